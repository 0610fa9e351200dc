/-
  Several texts in one:
  A log: Open.
  A log: a frame is laid.
  A log: Append.
  A log: Texts, Next, Room; a log that no call made.
  A store: a disk, a log, a map; Commit.
  The walk of ReadVar.
  x[i:j] of a slice that is read.
  The walk of piece.
  The walk of change.
-/
import Derived.Laws.Bits64b
import Derived.Test.YtbiohidelhfaiaaStoreWholeP0
import Derived.Test.YtbiohidelhfaiaaStoreWholeP1
import Derived.Test.YtbiohidelhfaiaaStoreWholeP2
import Derived.Test.YtbiohidelhfaiaaStoreWholeP3
section
namespace Go.Proofs.Ytbiohidelhfaiaa
open Go.RowKit Go.Canon Go.Mem Go.Args
open Go.Disk (St)
set_option linter.unusedVariables false
set_option linter.unusedSimpArgs false
def openP (s : St) : Int × Option LogS × St :=
  if s.off = true then (14, none, s) else
  match scan (flatS s.now) s.now.length (s.now.length + 1) [] 0 with
  | none => (13, none, s)
  | some (ls, nx) => if (wipeP s (flatS s.now) nx).1 = 0 then (0, some ⟨ls, nx, false⟩, (wipeP s (flatS s.now) nx).2) else ((wipeP s (flatS s.now) nx).1, none, (wipeP s (flatS s.now) nx).2)
def OpenPost (w : World) (P : Nat → Prop) (g : Nat) (r : Int × Option LogS × St) : Value → World → Prop := fun v w' => Keeps P w w' ∧ ∃ Q : Nat → Prop, (∀ k, Q k → w.heap.size ≤ k ∧ k < w'.heap.size) ∧ DIs w' (fun k => (P k ∨ w.heap.size ≤ k) ∧ ¬ Q k) g r.2.2 ∧
  ((r.2.1 = none ∧ v = .tuple #[.pointer none, .int .i64 r.1]) ∨ ∃ (L : LogS) (x : Nat), r.2.1 = some L ∧ v = .tuple #[.pointer (some ⟨x, 0, none⟩), .int .i64 r.1] ∧ LogMem w' x Q g L)
theorem info_bytess : (Try.prog.info? 103).map (·.size) = some 1 := by kernel_rfl
set_option maxHeartbeats 3200000 in
set_option maxRecDepth 100000 in
theorem wopen_c {w : World} {P : Nat → Prop} {g : Nat} {s : St} (h : DIs w P g s) (few : s.opn.length ≤ 900000) (hB : IsB (flatS s.now)) : Calls Try.prog 50 #[.pointer (some ⟨g, 0, none⟩)] w (Rets (OpenPost w P g (openP s))) := by
  have HH := Lib.hid h
  have hmost := h.ok.most
  have hN0 : ((s.now.length : Int) == 0) = false := beq_eq_false_iff_ne.2 (by have := h.ok.pos; omega)
  have HS := Lib.hid (dSectors_c h)
  have HR := Lib.hid (wread_c h)
  have HAL := Lib.hid (flatS_len h.ok.n64)
  have HB := Lib.hid hB
  have hPb : DIs w (fun k => P k ∧ k < w.heap.size) g s := h.bound
  have HPb := Lib.hid hPb
  cases ho : s.off with
  | true =>
    have HQ := Lib.hid (show openP s = (14, none, s) by unfold openP; rw [if_pos ho])
    have HO := Lib.hid ho
    clear h hB hPb ho
    go_enter Try.func50, Try.ntmps50
    go_wp2_with (first
      | (go_at_call 68; go_loud (refine Rets.use HR.out ?_); rintro v2 w2 ⟨hk2, hv⟩; obtain ⟨_, rfl⟩ := hv.resolve_right (fun h => by have := h.1; rw [HO.out] at this; cases this))
      | (go_at_call 67; go_loud (refine Rets.use HS.out ?_); rintro _ _ ⟨rfl, rfl⟩))
    go_ret2
    rw [HQ.out]
    exact ⟨hk2.mono (fun _ _ h => h.elim), fun _ => False, fun _ h => h.elim, (HH.out.kept hk2 (fun _ _ h => h)).wide (fun k h => ⟨.inl h, fun h => h⟩), .inl ⟨rfl, rfl⟩⟩
  | false =>
    have HO := Lib.hid ho
    have HQ0 := Lib.hid (show openP s = match scan (flatS s.now) s.now.length (s.now.length + 1) [] 0 with
      | none => (13, none, s)
      | some (ls, nx) => if (wipeP s (flatS s.now) nx).1 = 0 then (0, some ⟨ls, nx, false⟩, (wipeP s (flatS s.now) nx).2) else ((wipeP s (flatS s.now) nx).1, none, (wipeP s (flatS s.now) nx).2) by unfold openP; rw [if_neg (by rw [ho]; simp)])
    generalize openP s = q at *
    clear h hB hPb ho
    go_enter Try.func50, Try.ntmps50
    go_wp2_with (first
      | (go_at_call 68; go_loud (refine Rets.use HR.out ?_); rintro v2 w2 ⟨hk2, hv⟩; obtain ⟨_, u2, rfl, hO2⟩ := hv.resolve_left (fun h => by have := h.1; rw [HO.out] at this; cases this))
      | (go_at_call 67; go_loud (refine Rets.use HS.out ?_); rintro _ _ ⟨rfl, rfl⟩))
    have sz2 := hk2.size
    obtain ⟨b, o, c, rfl, hcap, _, _⟩ := hO2.rd.at (by intro e; have := congrArg List.length e; rw [Disk.bytes8_len, HAL.out, List.length_nil] at this; have := HH.out.ok.pos; omega)
    have HRa := Lib.hid hO2.rd.lt
    have HK2 := Lib.hid hk2
    have HM0 := Lib.hid (show LogMem (w2.alloc (Obj.cells #[.pointer (some ⟨g, 0, none⟩), .slice none 0 0, .int .i64 0, .bool false] 127)) w2.heap.size (fun k => w2.heap.size ≤ k ∧ k < w2.heap.size + 1) g ⟨[], 0, false⟩ from
      ⟨fun _ => False, fun _ => False, .slice none 0 0, [], heap_alloc_new w2 _, ⟨Nat.le_refl _, Nat.lt_succ_self _⟩, fun _ h => h.elim, fun _ h => h.elim, fun h => h, fun h => h, fun _ h => h.elim, OwnRow.nil _ _ _ _, rfl, fun i l hi => by simp at hi⟩)
    have HKa := Lib.hid ((Keeps.refl (fun _ => False) w2).alloc (Obj.cells #[.pointer (some ⟨g, 0, none⟩), .slice none 0 0, .int .i64 0, .bool false] 127))
    obtain ⟨x, hx⟩ : ∃ x, x = w2.heap.size := ⟨_, rfl⟩
    rw [← hx] at HM0 ⊢
    have HX := Lib.hid hx
    clear hx hO2 hk2 hv HR
    generalize hal : flatS s.now = all at *
    have HA := Lib.hid hal
    clear hal
    generalize hn : s.now.length = N at *
    have HN := Lib.hid hn
    clear hn
    go_loopw [7] (fun _ wr => ∃ (ls : List (List Int)) (nx f : Nat), nx ≤ N ∧ N - nx < f ∧ ls.length ≤ nx ∧ Hid (scan all N (N + 1) [] 0 = scan all N f ls nx) ∧ LogMem wr x (fun k => x ≤ k ∧ k < wr.heap.size) g ⟨ls, nx, false⟩ ∧ Keeps (fun _ => False) w2 wr) (fun _ wr => N - (intOf ((wr.cell? ⟨x, 2, none⟩).getD undef)).toNat)
    case atStart => exact ⟨[], 0, N + 1, Nat.zero_le _, by omega, Nat.le_refl _, Lib.hid rfl, HM0.out.wide (fun k h => ⟨h.1, by simp only [World.alloc, Array.size_push]; have := HX.out; omega⟩), HKa.out⟩
    case round =>
      obtain ⟨ls, nx, f, hnx, hf, hls, HSc, hM, hK⟩ := hrel
      obtain ⟨R, T, v, vs, hbx, hQx, hRQ, hTQ, nR, nT, hRT, hO, hTx⟩ := hM
      obtain ⟨Av, cv, rfl, _⟩ := hO.slice
      simp only at hbx hO hTx
      have HBx := Lib.hid hbx
      have HCw := Lib.hid (show wr.cell? ⟨x, 2, none⟩ = some (.int .i64 nx) from (cell_of_row wr x 2 _ _ _ hbx).trans rfl)
      have HO := Lib.hid hO
      have HTx := Lib.hid hTx
      have HK := Lib.hid hK
      have szk := hK.size
      clear hbx hO hTx hK HM0 HKa
      by_cases hlt : nx < N
      · have hd : (nx : Int) < N := by omega
        have hpl : 64 * nx + 64 ≤ all.length := by have := HAL.out; omega
        have hsl : (secF all nx).length = 64 := by unfold secF; rw [List.length_take, List.length_drop]; omega
        cases hb : blankF (secF all nx) with
        | true =>
          have HNo := Lib.hid (show ¬ (nx < N ∧ blankF (secF all nx) = false) by rw [hb]; simp)
          go_wp2
          refine Canon.region [5] [(⟨x, 2, none⟩, .int .i64 nx)] [(3, 0)] (.hold [0, 1, 2, 4, 3] (.loud 5 (.seg [6, 7, 8, 9, 10, 11, 14, 15, 16, 12, 13, 17, 18, 19, 20, 21, 22, 23] .stop))) (by kernel_rfl) (by kernel_rfl) (by repeat (first | (with_reducible exact Safe.body) | (with_reducible apply Safe.then) | (with_reducible apply Safe.inBlock) | (dsimp +zetaDelta only))) ?_
          simp only [Canon.pick, Canon.wpPlan, List.getElem?_toArray, List.getElem?_cons_zero, List.getElem?_cons_succ]
          have KD : Keeps (fun _ => False) wr wr.drew := (Keeps.refl _ wr).drew
          have hsd : wr.drew.heap.size = wr.heap.size := rfl
          have HBx := Lib.hid (KD.heap HBx.out (fun h => h))
          have HO := Lib.hid (HO.out.kept KD (fun _ _ h => h))
          have HTx := Lib.hid (HTx.out.kept KD (fun _ _ h => h))
          have HK := Lib.hid (HK.out.trans KD (fun _ _ h => h))
          clear KD
          generalize wr.drew = wd at *
          have cx0 : wd.cell? ⟨x, 0, none⟩ = some (.pointer (some ⟨g, 0, none⟩)) := (cell_of_row wd x 0 _ _ _ HBx.out).trans rfl
          have cx1 : wd.cell? ⟨x, 1, none⟩ = some (.slice Av ls.length cv) := (cell_of_row wd x 1 _ _ _ HBx.out).trans rfl
          have cx2 : wd.cell? ⟨x, 2, none⟩ = some (.int .i64 nx) := (cell_of_row wd x 2 _ _ _ HBx.out).trans rfl
          have HSr := Lib.hid (show Calls Try.prog 67 #[.pointer (some ⟨g, 0, none⟩)] wd (Rets (Only (.int .i64 N) wd)) by rw [← HN.out]; exact dSectors_c (HH.out.kept (HK2.out.trans HK.out (fun _ _ h => h)) (fun _ _ h => h)))
          have HRd := Lib.hid (HRa.out.kept HK.out (fun _ _ h => h))
          refine ⟨fun p hp => by rw [List.mem_singleton] at hp; subst hp; exact cx2, ?_⟩
          go_wp2_with (go_at_call 67; refine Rets.use HSr.out ?_; rintro _ _ ⟨rfl, rfl⟩)
          refine ⟨fun p hp => by rw [List.mem_singleton] at hp; subst hp; exact cx2, ?_⟩
          have HBl := Lib.hid (show Calls Try.prog 69 #[.slice (some ⟨b, o + 64 * nx, none⟩) 64 (c - 64 * nx)] wd (Rets (Only (.bool true) wd)) by
            rw [← hb]
            have h1 := Rd.part HRd.out (64 * nx) 64 hpl (c - 64 * nx) (by omega)
            have h2 : Rd wd (fun k => w.heap.size ≤ k ∧ k < w2.heap.size) (.slice (some ⟨b, o + 64 * nx, none⟩) 64 (c - 64 * nx)) (secF all nx).length (Disk.bytes8 (secF all nx)) := by
              rw [hsl]
              unfold secF
              simpa [Disk.bytes8, List.map_take, List.map_drop] using h1
            exact blank_c _ (secF all nx) h2 (by omega))
          have q3 : 64 * (nx + 1) - 64 * nx = 64 := by omega
          go_wp2_with (go_at_call 69; go_loud (try rw [q3]); go_loud (refine Rets.use HBl.out ?_); rintro _ _ ⟨rfl, rfl⟩)
          clear HBl q3
          refine ⟨by rfl, ⟨fun _ => rfl, trivial⟩, ?_⟩
          clear cx0 cx1 hb
          have HScn := Lib.hid (show scan all N (N + 1) [] 0 = some (ls, nx) by
            rw [HSc.out]
            obtain ⟨f', rfl⟩ : ∃ f', f = f' + 1 := ⟨f - 1, by omega⟩
            rw [scan, if_neg HNo.out])
          have HQ1 := Lib.hid (show q = if (wipeP s all nx).1 = 0 then (0, some ⟨ls, nx, false⟩, (wipeP s all nx).2) else ((wipeP s all nx).1, none, (wipeP s all nx).2) by have := HQ0.out; rw [HScn.out] at this; exact this)
          have HM9 := Lib.hid (show LogMem wd x (fun k => x ≤ k ∧ k < wd.heap.size) g ⟨ls, nx, false⟩ from ⟨R, T, _, vs, HBx.out, ⟨hQx.1, by omega⟩, fun k hk => ⟨(hRQ k hk).1, by have := (hRQ k hk).2; omega⟩, fun k hk => ⟨(hTQ k hk).1, by have := (hTQ k hk).2; omega⟩, nR, nT, hRT, HO.out, HTx.out⟩)
          have hKw := HK2.out.trans HK.out (fun _ _ h => h)
          have HKw := Lib.hid hKw
          have HWp := Lib.hid (wipe_c (HPb.out.kept hKw (fun _ _ h => h)) few _ all HRd.out (fun k h h' => by have := h.1; have := h'.2; omega) (by rw [HN.out]; exact HAL.out) nx (by rw [HN.out]; omega))
          have hxw : w.heap.size ≤ x := by have := HX.out; omega
          have szw := hKw.size
          clear HSc HScn HNo HQ0 HTx HO HBx hKw HRd HSr hQx hRQ hTQ nR nT hRT
          have HEnd := Lib.hid (fun (w5 : World) (s5 : St) (L : Option LogS) (hd : DIs w5 (fun k => (P k ∧ k < w.heap.size) ∨ wd.heap.size ≤ k) g s5) (hk5 : Keeps (fun k => P k ∧ k < w.heap.size) wd w5) => (show Keeps P w w5 ∧ (∀ k, (x ≤ k ∧ k < wd.heap.size) → w.heap.size ≤ k ∧ k < w5.heap.size) ∧ DIs w5 (fun k => (P k ∨ w.heap.size ≤ k) ∧ ¬ (x ≤ k ∧ k < wd.heap.size)) g s5 ∧ LogMem w5 x (fun k => x ≤ k ∧ k < wd.heap.size) g ⟨ls, nx, false⟩ from
            ⟨(HKw.out.mono (fun _ _ h => h.elim)).trans hk5 (fun k _ h => h.1), fun k h => ⟨by omega, by have := hk5.size; omega⟩, hd.wide (fun k h => by rcases h with h | h; exact ⟨.inl h.1, fun h' => by have := h.2; omega⟩; exact ⟨.inr (by omega), fun h' => by omega⟩), HM9.out.kept hk5 (fun k h h' => by have := h'.2; omega)⟩))
          generalize wipeP s all nx = r at *
          obtain ⟨e, s5⟩ := r
          simp only at HQ1 HWp
          by_cases he : e = 0
          · subst he
            have HQ1 := Lib.hid (show q = (0, some ⟨ls, nx, false⟩, s5) from HQ1.out)
            go_wp2_with (go_at_call 72; go_loud (refine Rets.use HWp.out ?_); rintro v5 w5 ⟨rfl, hd5, hk5⟩)
            go_ret2
            rw [HQ1.out]
            obtain ⟨h1, h2, h3, h4⟩ := HEnd.out w5 s5 none hd5 hk5
            exact ⟨h1, _, h2, h3, .inr ⟨_, x, rfl, rfl, h4⟩⟩
          · have HQ1 := Lib.hid (show q = (e, none, s5) by have := HQ1.out; rwa [if_neg he] at this)
            have hen : (e != 0) = true := by simpa using he
            clear he
            go_wp2_with (go_at_call 72; go_loud (refine Rets.use HWp.out ?_); rintro v5 w5 ⟨rfl, hd5, hk5⟩)
            go_ret2
            rw [HQ1.out]
            obtain ⟨h1, h2, h3, h4⟩ := HEnd.out w5 s5 none hd5 hk5
            exact ⟨h1, _, h2, h3, .inl ⟨rfl, rfl⟩⟩
        | false =>
          have HYes := Lib.hid (show nx < N ∧ blankF (secF all nx) = false from ⟨hlt, hb⟩)
          go_wp2
          refine Canon.region [5] [(⟨x, 2, none⟩, .int .i64 nx)] [(3, 0)] (.hold [0, 1, 2, 4, 3] (.loud 5 (.seg [6, 7, 8, 9, 10, 11, 14, 15, 16, 12, 13, 17, 18, 19, 20, 21, 22, 23] .stop))) (by kernel_rfl) (by kernel_rfl) (by repeat (first | (with_reducible exact Safe.body) | (with_reducible apply Safe.then) | (with_reducible apply Safe.inBlock) | (dsimp +zetaDelta only))) ?_
          simp only [Canon.pick, Canon.wpPlan, List.getElem?_toArray, List.getElem?_cons_zero, List.getElem?_cons_succ]
          have KD : Keeps (fun _ => False) wr wr.drew := (Keeps.refl _ wr).drew
          have hsd : wr.drew.heap.size = wr.heap.size := rfl
          have HBx := Lib.hid (KD.heap HBx.out (fun h => h))
          have HO := Lib.hid (HO.out.kept KD (fun _ _ h => h))
          have HTx := Lib.hid (HTx.out.kept KD (fun _ _ h => h))
          have HK := Lib.hid (HK.out.trans KD (fun _ _ h => h))
          clear KD
          generalize wr.drew = wd at *
          have cx0 : wd.cell? ⟨x, 0, none⟩ = some (.pointer (some ⟨g, 0, none⟩)) := (cell_of_row wd x 0 _ _ _ HBx.out).trans rfl
          have cx1 : wd.cell? ⟨x, 1, none⟩ = some (.slice Av ls.length cv) := (cell_of_row wd x 1 _ _ _ HBx.out).trans rfl
          have cx2 : wd.cell? ⟨x, 2, none⟩ = some (.int .i64 nx) := (cell_of_row wd x 2 _ _ _ HBx.out).trans rfl
          have HSr := Lib.hid (show Calls Try.prog 67 #[.pointer (some ⟨g, 0, none⟩)] wd (Rets (Only (.int .i64 N) wd)) by rw [← HN.out]; exact dSectors_c (HH.out.kept (HK2.out.trans HK.out (fun _ _ h => h)) (fun _ _ h => h)))
          have HRd := Lib.hid (HRa.out.kept HK.out (fun _ _ h => h))
          refine ⟨fun p hp => by rw [List.mem_singleton] at hp; subst hp; exact cx2, ?_⟩
          go_wp2_with (go_at_call 67; refine Rets.use HSr.out ?_; rintro _ _ ⟨rfl, rfl⟩)
          refine ⟨fun p hp => by rw [List.mem_singleton] at hp; subst hp; exact cx2, ?_⟩
          have HBl := Lib.hid (show Calls Try.prog 69 #[.slice (some ⟨b, o + 64 * nx, none⟩) 64 (c - 64 * nx)] wd (Rets (Only (.bool false) wd)) by
            rw [← hb]
            have h1 := Rd.part HRd.out (64 * nx) 64 hpl (c - 64 * nx) (by omega)
            have h2 : Rd wd (fun k => w.heap.size ≤ k ∧ k < w2.heap.size) (.slice (some ⟨b, o + 64 * nx, none⟩) 64 (c - 64 * nx)) (secF all nx).length (Disk.bytes8 (secF all nx)) := by
              rw [hsl]
              unfold secF
              simpa [Disk.bytes8, List.map_take, List.map_drop] using h1
            exact blank_c _ (secF all nx) h2 (by omega))
          have q3 : 64 * (nx + 1) - 64 * nx = 64 := by omega
          go_wp2_with (go_at_call 69; go_loud (try rw [q3]); go_loud (refine Rets.use HBl.out ?_); rintro _ _ ⟨rfl, rfl⟩)
          clear HBl q3
          refine ⟨by rfl, ⟨fun _ => rfl, trivial⟩, ?_⟩
          have HUp := Lib.hid (show scan all N (N + 1) [] 0 = (if (readF (all.drop (64 * nx))).2.2.2 = 0 ∧ (readF (all.drop (64 * nx))).1 = (ls.length : Int) + 1 then scan all N (f - 1) (ls ++ [(readF (all.drop (64 * nx))).2.1]) (nx + spanF (readF (all.drop (64 * nx))).2.2.1.toNat) else none) by
            rw [HSc.out]
            obtain ⟨f', rfl⟩ : ∃ f', f = f' + 1 := ⟨f - 1, by omega⟩
            rw [scan, if_pos HYes.out]; rfl)
          have hll : (all.drop (64 * nx)).length = all.length - 64 * nx := List.length_drop
          have HFr := Lib.hid (show Calls Try.prog 70 #[.slice (some ⟨b, o + 64 * nx, none⟩) (all.length - 64 * nx) (c - 64 * nx)] wd (Rets (FReadPost wd (readF (all.drop (64 * nx))))) by
            have h1 := Rd.part HRd.out (64 * nx) (all.length - 64 * nx) (by omega) (c - 64 * nx) (by omega)
            have h2 : Rd wd (fun k => w.heap.size ≤ k ∧ k < w2.heap.size) (.slice (some ⟨b, o + 64 * nx, none⟩) (all.length - 64 * nx) (c - 64 * nx)) (all.drop (64 * nx)).length (Disk.bytes8 (all.drop (64 * nx))) := by
              rw [hll]
              rw [List.take_of_length_le (by rw [List.length_drop, Disk.bytes8_len]; exact Nat.le_refl _)] at h1
              simpa [Disk.bytes8, List.map_drop] using h1
            exact fread_c _ _ h2 (HB.out.drop _) (by rw [hll]; have := HAL.out; omega))
          have HOk := Lib.hid (fun h => readF_ok (l := all.drop (64 * nx)) h (HB.out.drop _))
          rw [hll] at HOk
          clear HYes HSc hll hb
          generalize readF (all.drop (64 * nx)) = rr at *
          obtain ⟨sq, bs, n, e⟩ := rr
          simp only at HUp HOk
          by_cases he : e = 0
          · subst he
            obtain ⟨k, hk, hk2, hk3, hk4⟩ := HOk.out rfl
            obtain ⟨kn, hkn⟩ : ∃ kn, kn = k + 20 := ⟨_, rfl⟩
            rw [← hkn] at hk
            subst hk
            have hsp1 : nx + spanF kn ≤ N := by unfold spanF; have := HAL.out; omega
            have hsp2 : 1 ≤ spanF kn := by unfold spanF; omega
            have hkn4 : kn ≤ 1000000 := by omega
            have hbs : bs.length ≤ 16384 := by omega
            clear HOk hkn hk2 hk3 hk4 k
            by_cases hsq : sq = (ls.length : Int) + 1
            · subst hsq
              have HUq := Lib.hid (show scan all N (N + 1) [] 0 = scan all N (f - 1) (ls ++ [bs]) (nx + spanF kn) by rw [HUp.out, if_pos ⟨rfl, rfl⟩]; rfl)
              have HSpan := Lib.hid (fun w => span_c (w := w) kn hkn4)
              generalize spanF kn = sp at *
              have hnx2 : nx ≤ 4096 := by omega
              have hx0 : w2.heap.size = x := HX.out.symm
              have HX0 := Lib.hid hx0
              clear hx0
              go_wp2_with (first
                | ((with_reducible refine at_store 103 (.tmp 85) (.tmp 83) rfl ?_); go_must (refine step_store1 rfl _ _ _ rfl x 1 (.slice A7 (ls.length + 1) c7) _ _ rfl rfl rfl hb7 (by simp) info_bytess ?_); intro w8 hb8 hk8 hs8)
                | ((with_reducible refine at_ 83 rfl ?_); go_must (refine step_append_rd (ok2 := fun j => w5.heap.size ≤ j) rfl _ _ _ rfl 23 _ 1 24 Try.underlying103 row_bytes rfl (by decide) (.slice Av ls.length cv) ls.length vs rfl ((HO.out.kept hk5 (fun _ _ h => h)).kept hk6 (fun _ _ h => h)) _ 1 [u5] rfl (lit_rd (Rd.one hr5) hb6 (Nat.le_refl _)) rfl (by intro y hy; rw [List.mem_singleton] at hy; subst hy; exact Rd.one hr5) (by simp only [maxLen]; omega) (by omega) ?_); intro v7 w7 hO7 hk7; obtain ⟨A7, c7, rfl, _⟩ := hO7.slice; have hb7 := hk7.heap (hk6.heap (hk5.heap HBx.out (fun h => h)) (fun h => h)) (fun h => nR (HO.out.2 x h)))
                | ((with_reducible refine at_ 82 rfl ?_); go_must (refine step_lit rfl 103 _ 1 rfl [u5] rfl rfl (by decide) 23 _ 1 Try.underlying103 row2_bytes (by decide) (by decide) (by intro v hv; rw [List.mem_singleton] at hv; subst hv; exact one_size (Rd.one hr5)) ?_); intro w6 hb6 hk6 hs6)
                | (go_at_call 70; go_loud (refine Rets.use HFr.out ?_); rintro v5 w5 ⟨hk5, u5, rfl, hr5⟩; have cx1 := hk5.cell cx1 (fun h => h)))
              refine Canon.region [5] [(⟨x, 2, none⟩, .int .i64 nx)] [(3, 0)] (.hold [0, 1, 2, 4, 3] (.loud 5 (.seg [6, 7, 8, 9] .stop))) (by kernel_rfl) (by kernel_rfl) (by repeat (first | (with_reducible exact Safe.body) | (with_reducible apply Safe.then) | (with_reducible apply Safe.inBlock) | (dsimp +zetaDelta only))) ?_
              simp only [Canon.pick, Canon.wpPlan, List.getElem?_toArray, List.getElem?_cons_zero, List.getElem?_cons_succ]
              have KD8 : Keeps (fun _ => False) w8 w8.drew := (Keeps.refl _ w8).drew
              have hb9 := KD8.heap hb8 (fun h => h)
              have c2 : w8.drew.cell? ⟨x, 2, none⟩ = some (.int .i64 nx) := (cell_of_row w8.drew x 2 _ _ _ hb9).trans rfl
              have s8 := KD8.size
              generalize w8.drew = wz at *
              obtain ⟨nj, hnj⟩ : ∃ nj, nj = nx + sp := ⟨_, rfl⟩
              have esum : (nx : Int) + sp = (nj : Int) := by omega
              have hnjN : nj ≤ N := by omega
              have hnjl : ls.length + 1 ≤ nj := by omega
              have hnjx : nx < nj := by omega
              rw [← hnj] at HUq
              clear hnj
              refine ⟨fun p hp => by rw [List.mem_singleton] at hp; subst hp; exact c2, ?_⟩
              go_wp2_with (go_at_call 71; go_loud (refine Rets.use (HSpan.out _) ?_); rintro _ _ ⟨rfl, rfl⟩)
              refine ⟨fun p hp => by rw [List.mem_singleton] at hp; subst hp; exact c2, ?_⟩
              go_wp2_with ((with_reducible refine at_store 3 (.tmp 94) (.tmp 92) rfl ?_); go_must (refine step_store1 rfl _ _ _ rfl x 2 (.int .i64 (nj : Int)) _ _ rfl rfl rfl hb9 (by simp) info_int ?_); intro w10 hb10 hk10 hs10)
              refine ⟨by rfl, ⟨fun _ => rfl, trivial⟩, ?_⟩
              have z5 := hk5.size
              have z6 := hk6.size
              have z7 := hk7.size
              have z8 := hk8.size
              have z10 := hk10.size
              have hRx : ∀ k, R k → x ≤ k ∧ k < wd.heap.size := fun k hk => ⟨(hRQ k hk).1, by have := (hRQ k hk).2; omega⟩
              have hTx2 : ∀ k, T k → x ≤ k ∧ k < wd.heap.size := fun k hk => ⟨(hTQ k hk).1, by have := (hTQ k hk).2; omega⟩
              have hxx : x < wd.heap.size := by have := hQx.2; omega
              have kA : Keeps (fun k => k = x) w7 w10 := (hk8.trans KD8 (fun _ _ h => h.elim)).trans hk10 (fun _ _ h => h)
              have kB : Keeps (fun k => k = x ∨ R k) w5 w10 := ((hk6.mono (fun _ _ h => h.elim)).trans hk7 (fun k _ h => .inr (HO.out.2 k h))).trans kA (fun k _ h => .inl h)
              go_wp2
              simp only [show ∀ (a : Act) (v : Value), a.put none v = a from fun _ _ => rfl]
              go_roundw
              case rel =>
                refine ⟨ls ++ [bs], nj, f - 1, hnjN, by omega, by rw [List.length_append, List.length_singleton]; omega, HUq, ⟨fun k => R k ∨ (w6.heap.size ≤ k ∧ k < w7.heap.size), fun k => T k ∨ (wd.heap.size ≤ k ∧ k < w5.heap.size), _, vs ++ [u5], hb10, ⟨hQx.1, by omega⟩, ?_, ?_, ?_, ?_, ?_, ?_, ?_⟩, ?_⟩
                · rintro k (h | h)
                  · have := hRx k h; omega
                  · omega
                · rintro k (h | h)
                  · have := hTx2 k h; omega
                  · omega
                · rintro (h | h)
                  · exact nR h
                  · omega
                · rintro (h | h)
                  · exact nT h
                  · omega
                · rintro k (h | h) (h' | h')
                  · exact hRT k h h'
                  · have := hRx k h; omega
                  · have := hTx2 k h'; omega
                  · omega
                · simp only [List.length_append, List.length_singleton]
                  refine (hO7.mono (ok' := fun k => R k ∨ (w6.heap.size ≤ k ∧ k < w7.heap.size)) (fun k hk h => ?_)).kept kA (fun k hk e => ?_)
                  · rcases h with h | h
                    · exact .inl h
                    · exact .inr ⟨h, hk⟩
                  · subst e
                    rcases hk with h | h
                    · exact nR h
                    · omega
                · have hU : ∀ k, (T k ∨ (wd.heap.size ≤ k ∧ k < w5.heap.size)) → ¬ (k = x ∨ R k) := by
                    rintro k (h | h) (h' | h')
                    · subst h'; exact nT h
                    · exact hRT k h' h
                    · omega
                    · have := hRx k h'; omega
                  exact (((HTx.out.kept hk5 (fun _ _ h => h)).mono (T' := fun k => T k ∨ (wd.heap.size ≤ k ∧ k < w5.heap.size)) (fun k h => .inl h)).kept kB hU).push ((hr5.lt.mono (ok' := fun k => T k ∨ (wd.heap.size ≤ k ∧ k < w5.heap.size)) (fun k h => .inr h)).kept kB hU)
                · exact ((HK.out.trans hk5 (fun _ _ h => h)).trans kB (fun k hk h => by have := HX0.out; rcases h with h | h; omega; have := hRx k h; omega))
              case measure =>
                have hc : w10.cell? ⟨x, 2, none⟩ = some (.int .i64 (nj : Int)) := (cell_of_row w10 x 2 _ _ _ hb10).trans rfl
                rw [hc, HCw.out]
                simp [intOf]
                omega
            · have hqn : (sq != (ls.length : Int) + 1) = true := by simpa using hsq
              have HSn := Lib.hid (show scan all N (N + 1) [] 0 = none by rw [HUp.out, if_neg (fun h => hsq h.2)])
              have HQ1 := Lib.hid (show q = (13, none, s) by have := HQ0.out; rw [HSn.out] at this; exact this)
              clear hsq
              go_wp2_with (go_at_call 70; go_loud (refine Rets.use HFr.out ?_); rintro v5 w5 ⟨hk5, u5, rfl, hr5⟩; have cx1 := hk5.cell cx1 (fun h => h))
              go_ret2
              rw [HQ1.out]
              exact ⟨(((HK2.out.trans HK.out (fun _ _ h => h)).trans hk5 (fun _ _ h => h)).mono (fun _ _ h => h.elim)), fun _ => False, fun _ h => h.elim, (HH.out.kept ((HK2.out.trans HK.out (fun _ _ h => h)).trans hk5 (fun _ _ h => h)) (fun _ _ h => h)).wide (fun k h => ⟨.inl h, fun h => h⟩), .inl ⟨rfl, rfl⟩⟩
          · have hen : (e != 0) = true := by simpa using he
            have HSn := Lib.hid (show scan all N (N + 1) [] 0 = none by rw [HUp.out, if_neg (fun h => he h.1)])
            have HQ1 := Lib.hid (show q = (13, none, s) by have := HQ0.out; rw [HSn.out] at this; exact this)
            clear he HOk
            go_wp2_with (go_at_call 70; go_loud (refine Rets.use HFr.out ?_); rintro v5 w5 ⟨hk5, u5, rfl, hr5⟩)
            go_ret2
            rw [HQ1.out]
            exact ⟨(((HK2.out.trans HK.out (fun _ _ h => h)).trans hk5 (fun _ _ h => h)).mono (fun _ _ h => h.elim)), fun _ => False, fun _ h => h.elim, (HH.out.kept ((HK2.out.trans HK.out (fun _ _ h => h)).trans hk5 (fun _ _ h => h)) (fun _ _ h => h)).wide (fun k h => ⟨.inl h, fun h => h⟩), .inl ⟨rfl, rfl⟩⟩
      · have hd : ¬ (nx : Int) < N := by omega
        have HNo := Lib.hid (show ¬ (nx < N ∧ blankF (secF all nx) = false) from fun h => hlt h.1)
        go_wp2
        refine Canon.region [5] [(⟨x, 2, none⟩, .int .i64 nx)] [(3, 0)] (.hold [0, 1, 2, 4, 3] (.loud 5 (.seg [6, 7, 8, 9, 10, 11, 14, 15, 16, 12, 13, 17, 18, 19, 20, 21, 22, 23] .stop))) (by kernel_rfl) (by kernel_rfl) (by repeat (first | (with_reducible exact Safe.body) | (with_reducible apply Safe.then) | (with_reducible apply Safe.inBlock) | (dsimp +zetaDelta only))) ?_
        simp only [Canon.pick, Canon.wpPlan, List.getElem?_toArray, List.getElem?_cons_zero, List.getElem?_cons_succ]
        have KD : Keeps (fun _ => False) wr wr.drew := (Keeps.refl _ wr).drew
        have hsd : wr.drew.heap.size = wr.heap.size := rfl
        have HBx := Lib.hid (KD.heap HBx.out (fun h => h))
        have HO := Lib.hid (HO.out.kept KD (fun _ _ h => h))
        have HTx := Lib.hid (HTx.out.kept KD (fun _ _ h => h))
        have HK := Lib.hid (HK.out.trans KD (fun _ _ h => h))
        clear KD
        generalize wr.drew = wd at *
        have cx0 : wd.cell? ⟨x, 0, none⟩ = some (.pointer (some ⟨g, 0, none⟩)) := (cell_of_row wd x 0 _ _ _ HBx.out).trans rfl
        have cx1 : wd.cell? ⟨x, 1, none⟩ = some (.slice Av ls.length cv) := (cell_of_row wd x 1 _ _ _ HBx.out).trans rfl
        have cx2 : wd.cell? ⟨x, 2, none⟩ = some (.int .i64 nx) := (cell_of_row wd x 2 _ _ _ HBx.out).trans rfl
        have HSr := Lib.hid (show Calls Try.prog 67 #[.pointer (some ⟨g, 0, none⟩)] wd (Rets (Only (.int .i64 N) wd)) by rw [← HN.out]; exact dSectors_c (HH.out.kept (HK2.out.trans HK.out (fun _ _ h => h)) (fun _ _ h => h)))
        have HRd := Lib.hid (HRa.out.kept HK.out (fun _ _ h => h))
        refine ⟨fun p hp => by rw [List.mem_singleton] at hp; subst hp; exact cx2, ?_⟩
        go_wp2_with (go_at_call 67; refine Rets.use HSr.out ?_; rintro _ _ ⟨rfl, rfl⟩)
        refine ⟨fun p hp => by rw [List.mem_singleton] at hp; subst hp; exact cx2, ?_⟩
        go_wp2
        refine ⟨by rfl, ⟨fun _ => rfl, trivial⟩, ?_⟩
        clear cx0 cx1
        have HScn := Lib.hid (show scan all N (N + 1) [] 0 = some (ls, nx) by
          rw [HSc.out]
          obtain ⟨f', rfl⟩ : ∃ f', f = f' + 1 := ⟨f - 1, by omega⟩
          rw [scan, if_neg HNo.out])
        have HQ1 := Lib.hid (show q = if (wipeP s all nx).1 = 0 then (0, some ⟨ls, nx, false⟩, (wipeP s all nx).2) else ((wipeP s all nx).1, none, (wipeP s all nx).2) by have := HQ0.out; rw [HScn.out] at this; exact this)
        have HM9 := Lib.hid (show LogMem wd x (fun k => x ≤ k ∧ k < wd.heap.size) g ⟨ls, nx, false⟩ from ⟨R, T, _, vs, HBx.out, ⟨hQx.1, by omega⟩, fun k hk => ⟨(hRQ k hk).1, by have := (hRQ k hk).2; omega⟩, fun k hk => ⟨(hTQ k hk).1, by have := (hTQ k hk).2; omega⟩, nR, nT, hRT, HO.out, HTx.out⟩)
        have hKw := HK2.out.trans HK.out (fun _ _ h => h)
        have HKw := Lib.hid hKw
        have HWp := Lib.hid (wipe_c (HPb.out.kept hKw (fun _ _ h => h)) few _ all HRd.out (fun k h h' => by have := h.1; have := h'.2; omega) (by rw [HN.out]; exact HAL.out) nx (by rw [HN.out]; omega))
        have hxw : w.heap.size ≤ x := by have := HX.out; omega
        have szw := hKw.size
        clear HSc HScn HNo HQ0 HTx HO HBx hKw HRd HSr hQx hRQ hTQ nR nT hRT
        have HEnd := Lib.hid (fun (w5 : World) (s5 : St) (L : Option LogS) (hd : DIs w5 (fun k => (P k ∧ k < w.heap.size) ∨ wd.heap.size ≤ k) g s5) (hk5 : Keeps (fun k => P k ∧ k < w.heap.size) wd w5) => (show Keeps P w w5 ∧ (∀ k, (x ≤ k ∧ k < wd.heap.size) → w.heap.size ≤ k ∧ k < w5.heap.size) ∧ DIs w5 (fun k => (P k ∨ w.heap.size ≤ k) ∧ ¬ (x ≤ k ∧ k < wd.heap.size)) g s5 ∧ LogMem w5 x (fun k => x ≤ k ∧ k < wd.heap.size) g ⟨ls, nx, false⟩ from
          ⟨(HKw.out.mono (fun _ _ h => h.elim)).trans hk5 (fun k _ h => h.1), fun k h => ⟨by omega, by have := hk5.size; omega⟩, hd.wide (fun k h => by rcases h with h | h; exact ⟨.inl h.1, fun h' => by have := h.2; omega⟩; exact ⟨.inr (by omega), fun h' => by omega⟩), HM9.out.kept hk5 (fun k h h' => by have := h'.2; omega)⟩))
        generalize wipeP s all nx = r at *
        obtain ⟨e, s5⟩ := r
        simp only at HQ1 HWp
        by_cases he : e = 0
        · subst he
          have HQ1 := Lib.hid (show q = (0, some ⟨ls, nx, false⟩, s5) from HQ1.out)
          go_wp2_with (go_at_call 72; go_loud (refine Rets.use HWp.out ?_); rintro v5 w5 ⟨rfl, hd5, hk5⟩)
          go_ret2
          rw [HQ1.out]
          obtain ⟨h1, h2, h3, h4⟩ := HEnd.out w5 s5 none hd5 hk5
          exact ⟨h1, _, h2, h3, .inr ⟨_, x, rfl, rfl, h4⟩⟩
        · have HQ1 := Lib.hid (show q = (e, none, s5) by have := HQ1.out; rwa [if_neg he] at this)
          have hen : (e != 0) = true := by simpa using he
          clear he
          go_wp2_with (go_at_call 72; go_loud (refine Rets.use HWp.out ?_); rintro v5 w5 ⟨rfl, hd5, hk5⟩)
          go_ret2
          rw [HQ1.out]
          obtain ⟨h1, h2, h3, h4⟩ := HEnd.out w5 s5 none hd5 hk5
          exact ⟨h1, _, h2, h3, .inl ⟨rfl, rfl⟩⟩
end Go.Proofs.Ytbiohidelhfaiaa
end

section
namespace Go.Proofs.Ytbiohidelhfaiaa
open Go.RowKit Go.Canon Go.Mem Go.Args
open Go.Disk (St)
set_option linter.unusedVariables false
set_option linter.unusedSimpArgs false
def layGo (f : List Int) (next : Nat) : Nat → Nat → St → Int × St
  | 0, _, s => (0, s)
  | n + 1, i, s => if (s.write ((next + i : Nat) : Int) (secF f i)).1 = 0 then layGo f next n (i + 1) (s.write ((next + i : Nat) : Int) (secF f i)).2 else s.write ((next + i : Nat) : Int) (secF f i)
def layEnd (s : St) (next : Nat) (f : List Int) : Int × St := if (s.write next (f.take 64)).1 = 0 then (s.write next (f.take 64)).2.sync else s.write next (f.take 64)
def layMid (s : St) (next : Nat) (f : List Int) : Int × St := if 64 < f.length then (if s.sync.1 = 0 then layEnd s.sync.2 next f else s.sync) else layEnd s next f
def layP (s : St) (next : Nat) (f : List Int) : Int × St := if (layGo f next (spanF f.length - 1) 1 s).1 = 0 then layMid (layGo f next (spanF f.length - 1) 1 s).2 next f else layGo f next (spanF f.length - 1) 1 s
theorem LogMem.cells {w : World} {x g : Nat} {Q : Nat → Prop} {L : LogS} (h : LogMem w x Q g L) : w.cell? ⟨x, 0, none⟩ = some (.pointer (some ⟨g, 0, none⟩)) ∧ w.cell? ⟨x, 2, none⟩ = some (.int .i64 L.next) ∧ w.cell? ⟨x, 3, none⟩ = some (.bool L.dead) := by
  obtain ⟨R, T, v, vs, h1, _⟩ := h
  exact ⟨(cell_of_row w x 0 _ _ _ h1).trans rfl, (cell_of_row w x 2 _ _ _ h1).trans rfl, (cell_of_row w x 3 _ _ _ h1).trans rfl⟩
set_option maxHeartbeats 3200000 in
set_option maxRecDepth 100000 in
theorem lay_c {w : World} {P Q ok : Nat → Prop} {g x : Nat} {s : St} {L : LogS} (hd : DIs w P g s) (hm : LogMem w x Q g L) (hPQ : ∀ k, P k → ¬ Q k) (hQ : ∀ k, Q k → k < w.heap.size) (few : s.opn.length ≤ 900000) (hnx : L.next ≤ 4096) (vf : Value) (f : List Int) (hf : Rd w ok vf f.length (Disk.bytes8 f)) (hok : ∀ k, ok k → ¬ P k) (f1 : 20 ≤ f.length) (f2 : f.length ≤ 16404) :
    Calls Try.prog 74 #[.pointer (some ⟨x, 0, none⟩), vf] w (Rets (DPost w P g (.int .i64 (layP s L.next f).1) (layP s L.next f).2)) := by
  have HD := Lib.hid hd
  obtain ⟨c0, c2, _⟩ := hm.cells
  have hxQ : Q x := by obtain ⟨R, T, v, vs, h1, h2, _⟩ := hm; exact h2
  have hxw := hQ x hxQ
  have hxP : ¬ P x := fun h => hPQ x h hxQ
  obtain ⟨fb, fo, fc, rfl, hcap, _, _⟩ := hf.at (by intro e; have := congrArg List.length e; rw [Disk.bytes8_len, List.length_nil] at this; omega)
  have HF := Lib.hid hf.lt
  have HLy := Lib.hid (show layP s L.next f = if (layGo f L.next (spanF f.length - 1) 1 s).1 = 0 then layMid (layGo f L.next (spanF f.length - 1) 1 s).2 L.next f else layGo f L.next (spanF f.length - 1) 1 s from rfl)
  generalize layP s L.next f = q at *
  have HSp := Lib.hid (fun w => span_c (w := w) f.length (by omega))
  have hsp1 : 1 ≤ spanF f.length := by unfold spanF; omega
  have hsp2 : spanF f.length ≤ 257 := by unfold spanF; omega
  have HSpE := Lib.hid (show ∀ i, i < spanF f.length → 64 * i < f.length by intro i hi; unfold spanF at hi; omega)
  generalize hspq : spanF f.length = sp at *
  have HSpq := Lib.hid hspq
  generalize hnq : L.next = nx at *
  have HC0 := Lib.hid c0
  have HC2 := Lib.hid c2
  clear hd hm hf hspq hnq c0 c2
  go_enter Try.func74, Try.ntmps74
  go_wp2
  go_loopw [5] (fun iv wr => ∃ (i : Nat) (s2 : St), 1 ≤ i ∧ i ≤ sp ∧ iv = .int .i64 i ∧ s2.opn.length ≤ s.opn.length + i ∧ Hid (layGo f nx (sp - 1) 1 s = layGo f nx (sp - i) i s2) ∧ DIs wr (fun k => P k ∨ w.heap.size ≤ k) g s2 ∧ Keeps P w wr) (fun iv _ => sp - (intOf iv).toNat)
  case atStart => exact ⟨1, s, Nat.le_refl _, hsp1, rfl, by omega, Lib.hid rfl, HD.out.wide (fun k h => .inl h), Keeps.refl _ _⟩
  case round =>
    obtain ⟨i, s2, hi1, hi2, rfl, hfew, HG, hD, hK⟩ := hrel
    have HD2 := Lib.hid hD
    have HK := Lib.hid hK
    have szk := hK.size
    have c0 := hK.cell HC0.out hxP
    have c2 := hK.cell HC2.out hxP
    have HFr := Lib.hid (HF.out.kept hK (fun k h => hok k h.1))
    clear hD hK
    by_cases hlt : i < sp
    · have h64 := HSpE.out i hlt
      obtain ⟨j, hj⟩ : ∃ j, j = nx + i := ⟨_, rfl⟩
      have ej : (nx : Int) + i = (j : Int) := by omega
      have hjl : j ≤ 5000 := by omega
      have HStep := Lib.hid (show layGo f nx (sp - 1) 1 s = if (s2.write (j : Int) (secF f i)).1 = 0 then layGo f nx (sp - (i + 1)) (i + 1) (s2.write (j : Int) (secF f i)).2 else s2.write (j : Int) (secF f i) by
        rw [HG.out, show sp - i = (sp - (i + 1)) + 1 by omega, layGo, ← hj])
      clear hj
      by_cases hmin : 64 * (i + 1) < f.length
      · have hm1 : 64 * ((i : Int) + 1) < f.length := by omega
        have q3 : 64 * (i + 1) - 64 * i = 64 := by omega
        have HRp := Lib.hid (show ∀ wq, Keeps (fun _ => False) wr wq → Rd wq (fun k => ok k ∧ k < w.heap.size) (.slice (some ⟨fb, fo + 64 * i, none⟩) (64) (64)) (secF f i).length (Disk.bytes8 (secF f i)) by
          intro wq hk
          have h1 := Rd.part (HFr.out.kept hk (fun _ _ h => h)) (64 * i) (64) (by omega) (64) (Nat.le_refl _)
          have h2 : (secF f i).length = 64 := by unfold secF; rw [List.length_take, List.length_drop]; (try omega)
          have h3 : secF f i = (f.drop (64 * i)).take (64) := by unfold secF; rw [List.take_eq_take_iff, List.length_drop]; (try omega)
          rw [h2, h3]
          simpa [Disk.bytes8, List.map_take, List.map_drop] using h1)
        have hsl : (secF f i).length ≤ 64 := by unfold secF; rw [List.length_take]; omega
        generalize secF f i = sec at *
        go_wp2_with (go_at_call 71; go_loud (refine Rets.use (HSp.out _) ?_); rintro _ _ ⟨rfl, rfl⟩)
        refine Canon.row [0, 1, 2, 4, 5, 6, 8, 10, 11, 12, 13, 14, 3, 7, 9, 15, 16] (by kernel_rfl) (by kernel_rfl) (by repeat (first | (with_reducible exact Safe.body) | (with_reducible apply Safe.then) | (with_reducible apply Safe.inBlock) | (dsimp +zetaDelta only))) ?_
        simp only [Canon.pick, Canon.wpPlan, List.getElem?_toArray, List.getElem?_cons_zero, List.getElem?_cons_succ]
        have KD : Keeps (fun _ => False) wr wr.drew := (Keeps.refl _ wr).drew
        have c0 := KD.cell c0 (fun h => h)
        have c2 := KD.cell c2 (fun h => h)
        have HRq := Lib.hid (HRp.out _ KD)
        have HDq := Lib.hid (HD2.out.kept KD (fun _ _ h => h))
        have HKq := Lib.hid (HK.out.trans KD (fun _ _ h => h.elim))
        have hsd : wr.drew.heap.size = wr.heap.size := rfl
        clear KD HRp
        generalize wr.drew = wz at *
        have HWr := Lib.hid (dWrite_c HDq.out (j : Int) _ sec HRq.out (fun k h h' => by rcases h' with h' | h'; exact hok k h.1 h'; omega) (by omega) (by omega))
        have hwf := write_few s2 (j : Int) sec
        by_cases hw : (s2.write (j : Int) sec).1 = 0
        · have HG2 := Lib.hid (show layGo f nx (sp - 1) 1 s = layGo f nx (sp - (i + 1)) (i + 1) (s2.write (j : Int) sec).2 by rw [HStep.out, if_pos hw])
          rw [hw] at HWr
          generalize (s2.write (j : Int) sec).2 = s3 at *
          go_wp2_with (go_at_call 85; go_loud (try rw [q3]); go_loud (refine Rets.use HWr.out ?_); intro v5 w5 hp5; obtain ⟨rfl, hd5, hk5⟩ := wide_post HKq.out hp5)
          refine ⟨by rfl, trivial, ?_⟩
          go_wp2
          go_roundw
          case rel => exact ⟨i + 1, s3, by omega, by omega, by go_num, by omega, HG2, hd5, hk5⟩
          case measure => simp [intOf]; omega
        · have HG2 := Lib.hid (show layGo f nx (sp - 1) 1 s = s2.write (j : Int) sec by rw [HStep.out, if_neg hw])
          have HE := Lib.hid (show q = s2.write (j : Int) sec by rw [HLy.out, HG2.out, if_neg hw])
          have hwn : ((s2.write (j : Int) sec).1 != 0) = true := by simpa using hw
          clear hw
          generalize s2.write (j : Int) sec = r at *
          obtain ⟨ec, s3⟩ := r
          simp only at hwn HWr
          go_wp2_with (go_at_call 85; go_loud (try rw [q3]); go_loud (refine Rets.use HWr.out ?_); intro v5 w5 hp5; obtain ⟨rfl, hd5, hk5⟩ := wide_post HKq.out hp5)
          refine ⟨by rfl, trivial, ?_⟩
          go_wp2
          go_ret
          rw [HE.out]
          exact ⟨rfl, hd5, hk5⟩
      · have hm1 : (f.length : Int) ≤ 64 * ((i : Int) + 1) := by omega
        clear hmin
        have q3 : 64 * (i + 1) - 64 * i = 64 := by omega
        have HRp := Lib.hid (show ∀ wq, Keeps (fun _ => False) wr wq → Rd wq (fun k => ok k ∧ k < w.heap.size) (.slice (some ⟨fb, fo + 64 * i, none⟩) (f.length - 64 * i) (f.length - 64 * i)) (secF f i).length (Disk.bytes8 (secF f i)) by
          intro wq hk
          have h1 := Rd.part (HFr.out.kept hk (fun _ _ h => h)) (64 * i) (f.length - 64 * i) (by omega) (f.length - 64 * i) (Nat.le_refl _)
          have h2 : (secF f i).length = f.length - 64 * i := by unfold secF; rw [List.length_take, List.length_drop]; (try omega)
          have h3 : secF f i = (f.drop (64 * i)).take (f.length - 64 * i) := by unfold secF; rw [List.take_eq_take_iff, List.length_drop]; (try omega)
          rw [h2, h3]
          simpa [Disk.bytes8, List.map_take, List.map_drop] using h1)
        have hsl : (secF f i).length ≤ 64 := by unfold secF; rw [List.length_take]; omega
        generalize secF f i = sec at *
        go_wp2_with (go_at_call 71; go_loud (refine Rets.use (HSp.out _) ?_); rintro _ _ ⟨rfl, rfl⟩)
        refine Canon.row [0, 1, 2, 4, 5, 6, 8, 10, 11, 12, 13, 14, 3, 7, 9, 15, 16] (by kernel_rfl) (by kernel_rfl) (by repeat (first | (with_reducible exact Safe.body) | (with_reducible apply Safe.then) | (with_reducible apply Safe.inBlock) | (dsimp +zetaDelta only))) ?_
        simp only [Canon.pick, Canon.wpPlan, List.getElem?_toArray, List.getElem?_cons_zero, List.getElem?_cons_succ]
        have KD : Keeps (fun _ => False) wr wr.drew := (Keeps.refl _ wr).drew
        have c0 := KD.cell c0 (fun h => h)
        have c2 := KD.cell c2 (fun h => h)
        have HRq := Lib.hid (HRp.out _ KD)
        have HDq := Lib.hid (HD2.out.kept KD (fun _ _ h => h))
        have HKq := Lib.hid (HK.out.trans KD (fun _ _ h => h.elim))
        have hsd : wr.drew.heap.size = wr.heap.size := rfl
        clear KD HRp
        generalize wr.drew = wz at *
        have HWr := Lib.hid (dWrite_c HDq.out (j : Int) _ sec HRq.out (fun k h h' => by rcases h' with h' | h'; exact hok k h.1 h'; omega) (by omega) (by omega))
        have hwf := write_few s2 (j : Int) sec
        by_cases hw : (s2.write (j : Int) sec).1 = 0
        · have HG2 := Lib.hid (show layGo f nx (sp - 1) 1 s = layGo f nx (sp - (i + 1)) (i + 1) (s2.write (j : Int) sec).2 by rw [HStep.out, if_pos hw])
          rw [hw] at HWr
          generalize (s2.write (j : Int) sec).2 = s3 at *
          go_wp2_with (go_at_call 85; go_loud (try rw [q3]); go_loud (refine Rets.use HWr.out ?_); intro v5 w5 hp5; obtain ⟨rfl, hd5, hk5⟩ := wide_post HKq.out hp5)
          refine ⟨by rfl, trivial, ?_⟩
          go_wp2
          go_roundw
          case rel => exact ⟨i + 1, s3, by omega, by omega, by go_num, by omega, HG2, hd5, hk5⟩
          case measure => simp [intOf]; omega
        · have HG2 := Lib.hid (show layGo f nx (sp - 1) 1 s = s2.write (j : Int) sec by rw [HStep.out, if_neg hw])
          have HE := Lib.hid (show q = s2.write (j : Int) sec by rw [HLy.out, HG2.out, if_neg hw])
          have hwn : ((s2.write (j : Int) sec).1 != 0) = true := by simpa using hw
          clear hw
          generalize s2.write (j : Int) sec = r at *
          obtain ⟨ec, s3⟩ := r
          simp only at hwn HWr
          go_wp2_with (go_at_call 85; go_loud (try rw [q3]); go_loud (refine Rets.use HWr.out ?_); intro v5 w5 hp5; obtain ⟨rfl, hd5, hk5⟩ := wide_post HKq.out hp5)
          refine ⟨by rfl, trivial, ?_⟩
          go_wp2
          go_ret
          rw [HE.out]
          exact ⟨rfl, hd5, hk5⟩
    · obtain rfl : i = sp := by omega
      have HM := Lib.hid (show q = layMid s2 nx f by
        have h1 := HG.out
        rw [Nat.sub_self] at h1
        rw [HLy.out, h1]; rfl)
      by_cases h64 : 64 < f.length
      · have HSy := Lib.hid (dSync_c HD2.out (by omega))
        have hsf := sync_few s2
        by_cases hs : s2.sync.1 = 0
        · have HE := Lib.hid (show q = if (s2.sync.2.write nx (f.take 64)).1 = 0 then (s2.sync.2.write nx (f.take 64)).2.sync else s2.sync.2.write nx (f.take 64) by rw [HM.out, layMid, if_pos h64, if_pos hs, layEnd])
          rw [hs] at HSy
          generalize s2.sync.2 = s3 at *
          go_wp2_with (first
            | (go_at_call 86; go_loud (refine Rets.use HSy.out ?_); intro v5 w5 hp5; obtain ⟨rfl, hd5, hk5⟩ := wide_post HK.out hp5; have c0 := hk5.cell HC0.out hxP; have c2 := hk5.cell HC2.out hxP)
            | (go_at_call 71; go_loud (refine Rets.use (HSp.out _) ?_); rintro _ _ ⟨rfl, rfl⟩))
          have HDy := Lib.hid hd5
          have HKy := Lib.hid hk5
          rename World => wy
          clear hp5 hd5 hk5 HSy HFr HM HG
          refine Canon.row [0, 1, 2, 4, 5, 6, 8, 9, 10, 11, 3, 7, 12, 13] (by kernel_rfl) (by kernel_rfl) (by repeat (first | (with_reducible exact Safe.body) | (with_reducible apply Safe.then) | (with_reducible apply Safe.inBlock) | (dsimp +zetaDelta only))) ?_
          simp only [Canon.pick, Canon.wpPlan, List.getElem?_toArray, List.getElem?_cons_zero, List.getElem?_cons_succ]
          have KD : Keeps (fun _ => False) wy wy.drew := (Keeps.refl _ wy).drew
          have c0 := KD.cell c0 (fun h => h)
          have c2 := KD.cell c2 (fun h => h)
          have HDq := Lib.hid (HDy.out.kept KD (fun _ _ h => h))
          have HKq := Lib.hid (HKy.out.trans KD (fun _ _ h => h.elim))
          have hsd : wy.drew.heap.size = wy.heap.size := rfl
          have szy := HKy.out.size
          have HRq := Lib.hid (show Rd wy.drew (fun k => ok k ∧ k < w.heap.size) (.slice (some ⟨fb, fo, none⟩) (64) (64)) (f.take 64).length (Disk.bytes8 (f.take 64)) by
            have h1 := Rd.part ((HF.out.kept HKy.out (fun k h => hok k h.1)).kept KD (fun _ _ h => h)) 0 (64) (by omega) (64) (Nat.le_refl _)
            have h2 : (f.take 64).length = 64 := by rw [List.length_take]; (try omega)
            have h3 : f.take 64 = f.take (64) := by rw [List.take_eq_take_iff]; (try omega)
            rw [Nat.add_zero, List.drop_zero] at h1
            rw [h2, h3, show Disk.bytes8 (f.take (64)) = (Disk.bytes8 f).take (64) by unfold Disk.bytes8; rw [List.map_take]]
            exact h1)
          have hsl : (f.take 64).length ≤ 64 := by rw [List.length_take]; omega
          clear KD
          generalize f.take 64 = sec at *
          generalize wy.drew = wz at *
          have HWr := Lib.hid (dWrite_c HDq.out (nx : Int) _ sec HRq.out (fun k h h' => by rcases h' with h' | h'; exact hok k h.1 h'; omega) (by omega) (by omega))
          have hwf := write_few s3 (nx : Int) sec
          by_cases hw : (s3.write (nx : Int) sec).1 = 0
          · have HE2 := Lib.hid (show q = (s3.write (nx : Int) sec).2.sync by rw [HE.out, if_pos hw])
            rw [hw] at HWr
            generalize (s3.write (nx : Int) sec).2 = s4 at *
            go_wp2_with (go_at_call 85; go_loud (refine Rets.use HWr.out ?_); intro v6 w6 hp6; obtain ⟨rfl, hd6, hk6⟩ := wide_post HKq.out hp6; have c0 := hk6.cell HC0.out hxP)
            refine ⟨by rfl, trivial, ?_⟩
            have HSy := Lib.hid (dSync_c hd6 (by omega))
            have HK6 := Lib.hid hk6
            go_wp2_with (go_at_call 86; go_loud (refine Rets.use HSy.out ?_); intro v7 w7 hp7; obtain ⟨rfl, hd7, hk7⟩ := wide_post HK6.out hp7)
            go_ret
            rw [HE2.out]
            exact ⟨rfl, hd7, hk7⟩
          · have HE2 := Lib.hid (show q = s3.write (nx : Int) sec by rw [HE.out, if_neg hw])
            have hwn : ((s3.write (nx : Int) sec).1 != 0) = true := by simpa using hw
            clear hw
            generalize s3.write (nx : Int) sec = r at *
            obtain ⟨ec, s4⟩ := r
            simp only at hwn HWr
            go_wp2_with (go_at_call 85; go_loud (refine Rets.use HWr.out ?_); intro v6 w6 hp6; obtain ⟨rfl, hd6, hk6⟩ := wide_post HKq.out hp6)
            refine ⟨by rfl, trivial, ?_⟩
            go_wp2
            go_ret
            rw [HE2.out]
            exact ⟨rfl, hd6, hk6⟩
        · have HE := Lib.hid (show q = s2.sync by rw [HM.out, layMid, if_pos h64, if_neg hs])
          have hsn : (s2.sync.1 != 0) = true := by simpa using hs
          clear hs
          generalize s2.sync = r at *
          obtain ⟨ec, s3⟩ := r
          simp only at hsn HSy
          go_wp2_with (first
            | (go_at_call 86; go_loud (refine Rets.use HSy.out ?_); intro v5 w5 hp5; obtain ⟨rfl, hd5, hk5⟩ := wide_post HK.out hp5)
            | (go_at_call 71; go_loud (refine Rets.use (HSp.out _) ?_); rintro _ _ ⟨rfl, rfl⟩))
          go_ret
          rw [HE.out]
          exact ⟨rfl, hd5, hk5⟩
      · have hle : f.length ≤ 64 := by omega
        have HE := Lib.hid (show q = if (s2.write nx (f.take 64)).1 = 0 then (s2.write nx (f.take 64)).2.sync else s2.write nx (f.take 64) by rw [HM.out, layMid, if_neg h64, layEnd])
        clear h64
        go_wp2_with (go_at_call 71; go_loud (refine Rets.use (HSp.out _) ?_); rintro _ _ ⟨rfl, rfl⟩)
        have HDy := HD2
        have HKy := HK
        have hfew3 : s2.opn.length ≤ 900300 := by omega
        clear HD2 HK
        rename World => wy
        clear HFr HM HG
        generalize s2 = s3 at *
        refine Canon.row [0, 1, 2, 4, 5, 6, 8, 9, 10, 11, 3, 7, 12, 13] (by kernel_rfl) (by kernel_rfl) (by repeat (first | (with_reducible exact Safe.body) | (with_reducible apply Safe.then) | (with_reducible apply Safe.inBlock) | (dsimp +zetaDelta only))) ?_
        simp only [Canon.pick, Canon.wpPlan, List.getElem?_toArray, List.getElem?_cons_zero, List.getElem?_cons_succ]
        have KD : Keeps (fun _ => False) wy wy.drew := (Keeps.refl _ wy).drew
        have c0 := KD.cell c0 (fun h => h)
        have c2 := KD.cell c2 (fun h => h)
        have HDq := Lib.hid (HDy.out.kept KD (fun _ _ h => h))
        have HKq := Lib.hid (HKy.out.trans KD (fun _ _ h => h.elim))
        have hsd : wy.drew.heap.size = wy.heap.size := rfl
        have szy := HKy.out.size
        have HRq := Lib.hid (show Rd wy.drew (fun k => ok k ∧ k < w.heap.size) (.slice (some ⟨fb, fo, none⟩) (f.length) (f.length)) (f.take 64).length (Disk.bytes8 (f.take 64)) by
          have h1 := Rd.part ((HF.out.kept HKy.out (fun k h => hok k h.1)).kept KD (fun _ _ h => h)) 0 (f.length) (by omega) (f.length) (Nat.le_refl _)
          have h2 : (f.take 64).length = f.length := by rw [List.length_take]; (try omega)
          have h3 : f.take 64 = f.take (f.length) := by rw [List.take_eq_take_iff]; (try omega)
          rw [Nat.add_zero, List.drop_zero] at h1
          rw [h2, h3, show Disk.bytes8 (f.take (f.length)) = (Disk.bytes8 f).take (f.length) by unfold Disk.bytes8; rw [List.map_take]]
          exact h1)
        have hsl : (f.take 64).length ≤ 64 := by rw [List.length_take]; omega
        clear KD
        generalize f.take 64 = sec at *
        generalize wy.drew = wz at *
        have HWr := Lib.hid (dWrite_c HDq.out (nx : Int) _ sec HRq.out (fun k h h' => by rcases h' with h' | h'; exact hok k h.1 h'; omega) (by omega) (by omega))
        have hwf := write_few s3 (nx : Int) sec
        by_cases hw : (s3.write (nx : Int) sec).1 = 0
        · have HE2 := Lib.hid (show q = (s3.write (nx : Int) sec).2.sync by rw [HE.out, if_pos hw])
          rw [hw] at HWr
          generalize (s3.write (nx : Int) sec).2 = s4 at *
          go_wp2_with (go_at_call 85; go_loud (refine Rets.use HWr.out ?_); intro v6 w6 hp6; obtain ⟨rfl, hd6, hk6⟩ := wide_post HKq.out hp6; have c0 := hk6.cell HC0.out hxP)
          refine ⟨by rfl, trivial, ?_⟩
          have HSy := Lib.hid (dSync_c hd6 (by omega))
          have HK6 := Lib.hid hk6
          go_wp2_with (go_at_call 86; go_loud (refine Rets.use HSy.out ?_); intro v7 w7 hp7; obtain ⟨rfl, hd7, hk7⟩ := wide_post HK6.out hp7)
          go_ret
          rw [HE2.out]
          exact ⟨rfl, hd7, hk7⟩
        · have HE2 := Lib.hid (show q = s3.write (nx : Int) sec by rw [HE.out, if_neg hw])
          have hwn : ((s3.write (nx : Int) sec).1 != 0) = true := by simpa using hw
          clear hw
          generalize s3.write (nx : Int) sec = r at *
          obtain ⟨ec, s4⟩ := r
          simp only at hwn HWr
          go_wp2_with (go_at_call 85; go_loud (refine Rets.use HWr.out ?_); intro v6 w6 hp6; obtain ⟨rfl, hd6, hk6⟩ := wide_post HKq.out hp6)
          refine ⟨by rfl, trivial, ?_⟩
          go_wp2
          go_ret
          rw [HE2.out]
          exact ⟨rfl, hd6, hk6⟩
end Go.Proofs.Ytbiohidelhfaiaa
end

section
namespace Go.Proofs.Ytbiohidelhfaiaa
open Go.RowKit Go.Canon Go.Mem Go.Args
open Go.Disk (St)
set_option linter.unusedVariables false
set_option linter.unusedSimpArgs false
def appendP (s : St) (L : LogS) (b : List Int) : Int × St × LogS :=
  if L.dead = true then (14, s, L) else if 16384 < b.length then (5, s, L)
  else if s.now.length < L.next + spanF (b.length + 20) then (11, s, L)
  else if (layP s L.next (putF ((L.texts.length : Int) + 1) b)).1 = 0 then (0, (layP s L.next (putF ((L.texts.length : Int) + 1) b)).2, ⟨L.texts ++ [b], L.next + spanF (b.length + 20), false⟩)
  else ((layP s L.next (putF ((L.texts.length : Int) + 1) b)).1, (layP s L.next (putF ((L.texts.length : Int) + 1) b)).2, { L with dead := true })
def APost (w : World) (P Q : Nat → Prop) (g x : Nat) (r : Int × St × LogS) : Value → World → Prop := fun v w' => v = .int .i64 r.1 ∧ Keeps (fun k => P k ∨ Q k) w w' ∧ ∃ Q' : Nat → Prop, (∀ k, Q' k → (Q k ∨ w.heap.size ≤ k) ∧ k < w'.heap.size) ∧ DIs w' (fun k => (P k ∨ w.heap.size ≤ k) ∧ ¬ Q' k) g r.2.1 ∧ LogMem w' x Q' g r.2.2
theorem APost.same {w w' : World} {P Q : Nat → Prop} {g x : Nat} {s : St} {L : LogS} {e : Int} (hd : DIs w P g s) (hm : LogMem w x Q g L) (hPQ : ∀ k, P k → ¬ Q k) (hQ : ∀ k, Q k → k < w.heap.size) (hk : Keeps (fun _ => False) w w') : APost w P Q g x (e, s, L) (.int .i64 e) w' :=
  ⟨rfl, hk.mono (fun _ _ h => h.elim), Q, fun k h => ⟨.inl h, Nat.lt_of_lt_of_le (hQ k h) hk.size⟩, (hd.kept hk (fun _ _ h => h)).wide (fun k h => ⟨.inl h, hPQ k h⟩), hm.kept hk (fun _ _ h => h)⟩
set_option maxHeartbeats 3200000 in
set_option maxRecDepth 100000 in
theorem append_c {w : World} {P Q ok : Nat → Prop} {g x : Nat} {s : St} {L : LogS} (hd : DIs w P g s) (hm : LogMem w x Q g L) (hPQ : ∀ k, P k → ¬ Q k) (hQ : ∀ k, Q k → k < w.heap.size) (few : s.opn.length ≤ 900000) (hnx : L.next ≤ s.now.length) (htx : L.texts.length ≤ 4096) (vb : Value) (b : List Int) (hb : Rd w ok vb b.length (Disk.bytes8 b)) (hok : ∀ k, ok k → ¬ P k ∧ ¬ Q k) (hbl : b.length ≤ 1000000) :
    Calls Try.prog 54 #[.pointer (some ⟨x, 0, none⟩), vb] w (Rets (APost w P Q g x (appendP s L b))) := by
  have HD := Lib.hid hd
  have HM := Lib.hid hm
  have hmost := hd.ok.most
  obtain ⟨R, T, v, vs, hbx, hQx, hRQ, hTQ, nR, nT, hRT, hO, hTx⟩ := hm
  obtain ⟨Av, cv, rfl, _⟩ := hO.slice
  obtain ⟨Ab, cb, rfl, _⟩ := hb.slice
  obtain ⟨ts, nx, dead⟩ := L
  simp only at hbx hO hTx hnx htx
  have c0 : w.cell? ⟨x, 0, none⟩ = some (.pointer (some ⟨g, 0, none⟩)) := (cell_of_row w x 0 _ _ _ hbx).trans rfl
  have c1 : w.cell? ⟨x, 1, none⟩ = some (.slice Av ts.length cv) := (cell_of_row w x 1 _ _ _ hbx).trans rfl
  have c2 : w.cell? ⟨x, 2, none⟩ = some (.int .i64 nx) := (cell_of_row w x 2 _ _ _ hbx).trans rfl
  have c3 : w.cell? ⟨x, 3, none⟩ = some (.bool dead) := (cell_of_row w x 3 _ _ _ hbx).trans rfl
  have HRb := Lib.hid hb.lt
  have HBx := Lib.hid hbx
  have HO := Lib.hid hO
  have HTx := Lib.hid hTx
  have HE0 := Lib.hid (show appendP s ⟨ts, nx, dead⟩ b = if dead = true then (14, s, ⟨ts, nx, dead⟩) else if 16384 < b.length then (5, s, ⟨ts, nx, dead⟩) else if s.now.length < nx + spanF (b.length + 20) then (11, s, ⟨ts, nx, dead⟩)
    else if (layP s nx (putF ((ts.length : Int) + 1) b)).1 = 0 then (0, (layP s nx (putF ((ts.length : Int) + 1) b)).2, ⟨ts ++ [b], nx + spanF (b.length + 20), false⟩)
    else ((layP s nx (putF ((ts.length : Int) + 1) b)).1, (layP s nx (putF ((ts.length : Int) + 1) b)).2, ⟨ts, nx, true⟩) from rfl)
  generalize appendP s ⟨ts, nx, dead⟩ b = q at *
  clear hd hb hbx hO hTx
  cases dead with
  | true =>
    have HE := Lib.hid (show q = (14, s, ⟨ts, nx, true⟩) from HE0.out)
    go_enter Try.func54, Try.ntmps54
    go_wp2
    go_ret
    rw [HE.out]
    exact APost.same HD.out HM.out hPQ hQ (Keeps.refl _ _)
  | false =>
    have HE := Lib.hid (show q = if 16384 < b.length then (5, s, ⟨ts, nx, false⟩) else if s.now.length < nx + spanF (b.length + 20) then (11, s, ⟨ts, nx, false⟩)
      else if (layP s nx (putF ((ts.length : Int) + 1) b)).1 = 0 then (0, (layP s nx (putF ((ts.length : Int) + 1) b)).2, ⟨ts ++ [b], nx + spanF (b.length + 20), false⟩)
      else ((layP s nx (putF ((ts.length : Int) + 1) b)).1, (layP s nx (putF ((ts.length : Int) + 1) b)).2, ⟨ts, nx, true⟩) from HE0.out)
    clear HE0
    by_cases hbig : 16384 < b.length
    · rw [if_pos hbig] at HE
      have HP := Lib.hid (fput_big (w := w) ((ts.length : Int) + 1) (by omega) _ b HRb.out hbig)
      go_enter Try.func54, Try.ntmps54
      go_wp2_with (go_at_call 73; go_loud (refine Rets.use HP.out ?_); rintro _ _ ⟨rfl, rfl⟩)
      go_ret
      rw [HE.out]
      exact APost.same HD.out HM.out hPQ hQ (Keeps.refl _ _)
    · rw [if_neg hbig] at HE
      have HP := Lib.hid (fput_c (w := w) ((ts.length : Int) + 1) (by omega) _ b HRb.out (by omega))
      have hfl := putF_len ((ts.length : Int) + 1) b
      generalize putF ((ts.length : Int) + 1) b = f at *
      rw [← hfl] at HE
      have hf1 : 20 ≤ f.length := by omega
      have hf2 : f.length ≤ 16404 := by omega
      clear hfl
      have HSp := Lib.hid (fun w => span_c (w := w) f.length (by omega))
      generalize spanF f.length = sp at *
      go_enter Try.func54, Try.ntmps54
      go_wp2_with (go_at_call 73; go_loud (refine Rets.use HP.out ?_); rintro v1 w1 ⟨hk1, u1, rfl, hO1⟩; obtain ⟨A1, cap1, rfl, _⟩ := hO1.slice; have c0 := hk1.cell c0 (fun h => h); have c1 := hk1.cell c1 (fun h => h); have c2 := hk1.cell c2 (fun h => h); have c3 := hk1.cell c3 (fun h => h))
      have szv := hk1.size
      refine Canon.region [2, 7] [(⟨x, 0, none⟩, .pointer (some ⟨g, 0, none⟩)), (⟨x, 2, none⟩, .int .i64 nx)] [(6, 0), (11, 1)] (.hold [0, 1, 3, 4, 5, 8, 9, 10, 6, 11] (.loud 2 (.loud 7 (.seg [12, 13] .stop)))) (by kernel_rfl) (by kernel_rfl) (by repeat (first | (with_reducible exact Safe.body) | (with_reducible apply Safe.then) | (with_reducible apply Safe.inBlock) | (dsimp +zetaDelta only))) ?_
      simp only [Canon.pick, Canon.wpPlan, List.getElem?_toArray, List.getElem?_cons_zero, List.getElem?_cons_succ]
      have KD : Keeps (fun _ => False) w1 w1.drew := (Keeps.refl _ w1).drew
      have HK1 := Lib.hid (hk1.trans KD (fun _ _ h => h))
      have hsd : w1.drew.heap.size = w1.heap.size := rfl
      have HF1 := Lib.hid (hO1.rd.lt.kept KD (fun _ _ h => h))
      have c0 := KD.cell c0 (fun h => h)
      have c1 := KD.cell c1 (fun h => h)
      have c2 := KD.cell c2 (fun h => h)
      clear KD hk1 hO1 HP
      generalize w1.drew = wz at *
      have HX := Lib.hid (show ∀ p ∈ [((⟨x, 0, none⟩ : Addr), Value.pointer (some ⟨g, 0, none⟩)), (⟨x, 2, none⟩, .int .i64 nx)], wz.cell? p.1 = some p.2 by
        intro p hp
        simp only [List.mem_cons, List.not_mem_nil, or_false] at hp
        rcases hp with rfl | rfl
        · exact c0
        · exact c2)
      have HDz := Lib.hid (HD.out.bound.kept HK1.out (fun _ _ h => h))
      have HMz := Lib.hid (HM.out.kept HK1.out (fun _ _ h => h))
      have HSec := Lib.hid (dSectors_c HDz.out)
      have HLy := Lib.hid (lay_c (P := fun k => P k ∧ k < w.heap.size) HDz.out HMz.out (fun k h => hPQ k h.1) (fun k h => by have := hQ k h; omega) few (by simp only; omega) _ f HF1.out (fun k h h' => by have := h'.2; omega) hf1 hf2)
      simp only at HLy
      generalize hN : s.now.length = N at *
      clear hN
      refine ⟨HX.out, ?_⟩
      go_wp2_with (go_at_call 71; go_loud (refine Rets.use (HSp.out _) ?_); rintro _ _ ⟨rfl, rfl⟩)
      refine ⟨HX.out, ?_⟩
      go_wp2_with (go_at_call 67; go_loud (refine Rets.use HSec.out ?_); rintro _ _ ⟨rfl, rfl⟩)
      refine ⟨HX.out, ?_⟩
      go_wp2
      refine ⟨by rfl, ⟨fun _ => rfl, ⟨fun _ => rfl, trivial⟩⟩, ?_⟩
      by_cases hfull : N < nx + sp
      · rw [if_pos hfull] at HE
        have hfi : (N : Int) - nx < sp := by omega
        go_wp2
        go_ret
        rw [HE.out]
        exact APost.same HD.out HM.out hPQ hQ HK1.out
      · rw [if_neg hfull] at HE
        have hfi : ¬ ((N : Int) - nx < sp) := by omega
        have hxw := hQ x hQx
        have hxP : ¬ P x := fun h => hPQ x h hQx
        by_cases he : (layP s nx f).1 = 0
        · rw [if_pos he] at HE
          rw [he] at HLy
          generalize (layP s nx f).2 = s5 at *
          have HBz := Lib.hid (HK1.out.heap HBx.out (fun h => h))
          obtain ⟨nj, hnj⟩ : ∃ nj, nj = nx + sp := ⟨_, rfl⟩
          have esum : (nx : Int) + sp = (nj : Int) := by omega
          have hnjN : nj ≤ N := by omega
          rw [← hnj] at HE
          clear hnj
          go_wp2_with (go_at_call 74; go_loud (refine Rets.use HLy.out ?_); rintro v5 w5 ⟨rfl, hd5, hk5⟩)
          have KD5 : Keeps (fun _ => False) w5 w5.drew := (Keeps.refl _ w5).drew
          have hb5 := KD5.heap (hk5.heap HBz.out (fun h => hxP h.1)) (fun h => h)
          have c1 : w5.drew.cell? ⟨x, 1, none⟩ = some (.slice Av ts.length cv) := (cell_of_row w5.drew x 1 _ _ _ hb5).trans rfl
          have hd5d := hd5.kept KD5 (fun _ _ h => h)
          have hk5d := hk5.trans KD5 (fun _ _ h => h.elim)
          have hsd5 : w5.drew.heap.size = w5.heap.size := rfl
          have z5 := hk5.size
          refine Canon.region [6, 7] [(⟨x, 1, none⟩, .slice Av ts.length cv)] [(4, 0)] (.hold [0, 1, 2, 3, 5, 4] (.loud 6 (.loud 7 (.seg [8, 9, 10, 11] .stop)))) (by kernel_rfl) (by kernel_rfl) (by repeat (first | (with_reducible exact Safe.body) | (with_reducible apply Safe.then) | (with_reducible apply Safe.inBlock) | (dsimp +zetaDelta only))) ?_
          simp only [Canon.pick, Canon.wpPlan, List.getElem?_toArray, List.getElem?_cons_zero, List.getElem?_cons_succ]
          have HRP := Lib.hid (show ∀ k, Q k → ¬ (P k ∧ k < w.heap.size) from fun k h h' => hPQ k h'.1 h)
          have HOq := Lib.hid (((HO.out.kept HK1.out (fun _ _ h => h)).kept hk5d (fun k h => HRP.out k (hRQ k h))))
          have HTq := Lib.hid (((HTx.out.kept HK1.out (fun _ _ h => h)).kept hk5d (fun k h => HRP.out k (hTQ k h))))
          have HRb5 := Lib.hid ((HRb.out.kept HK1.out (fun _ _ h => h)).kept hk5d (fun k h h' => (hok k h.1).1 h'.1))
          have HD5 := Lib.hid hd5d
          have HK5 := Lib.hid hk5d
          have HB5 := Lib.hid hb5
          clear hd5 hk5 hd5d hk5d hb5 KD5 HLy HDz HMz HSec HX
          generalize w5.drew = wq at *
          have HC := Lib.hid (clone_c (w := wq) _ b HRb5.out (by omega))
          refine ⟨fun p hp => by rw [List.mem_singleton] at hp; subst hp; exact c1, ?_⟩
          go_wp2_with (go_at_call 64; go_loud (refine Rets.use HC.out ?_); rintro v6 w6 ⟨hO6, hk6⟩; have c16 := hk6.cell c1 (fun h => h))
          refine ⟨fun p hp => by rw [List.mem_singleton] at hp; subst hp; exact c16, ?_⟩
          go_wp2_with ((with_reducible refine at_ 66 rfl ?_); go_must (refine step_lit rfl 103 _ 1 rfl [v6] rfl rfl (by decide) 23 _ 1 Try.underlying103 row2_bytes (by decide) (by decide) (by intro v hv; rw [List.mem_singleton] at hv; subst hv; exact one_size (Rd.one hO6.rd)) ?_); intro w7 hb7 hk7 hs7; have c17 := hk7.cell c16 (fun h => h))
          refine ⟨fun p hp => by rw [List.mem_singleton] at hp; subst hp; exact c17, ?_⟩
          go_wp2_with (first
            | ((with_reducible refine at_store 103 (.tmp 69) (.tmp 67) rfl ?_); go_must (refine step_store1 rfl _ _ _ rfl x 1 (.slice A8 (ts.length + 1) c8) _ _ rfl rfl rfl hb8 (by simp) info_bytess ?_); intro w9 hb9 hk9 hs9)
            | ((with_reducible refine at_ 67 rfl ?_); go_must (refine step_append_rd (ok2 := fun j => w6.heap.size ≤ j) rfl _ _ _ rfl 23 _ 1 24 Try.underlying103 row_bytes rfl (by decide) (.slice Av ts.length cv) ts.length vs rfl ((HOq.out.kept hk6 (fun _ _ h => h)).kept hk7 (fun _ _ h => h)) _ 1 [v6] rfl (lit_rd (Rd.one hO6.rd) hb7 (Nat.le_refl _)) rfl (by intro y hy; rw [List.mem_singleton] at hy; subst hy; exact Rd.one hO6.rd) (by simp only [maxLen]; omega) (by omega) ?_); intro v8 w8 hO8 hk8; obtain ⟨A8, c8, rfl, _⟩ := hO8.slice; have hb8 := hk8.heap (hk7.heap (hk6.heap HB5.out (fun h => h)) (fun h => h)) (fun h => nR (HOq.out.2 x h))))
          refine ⟨by rfl, ⟨fun _ => rfl, trivial⟩, ?_⟩
          go_wp2
          refine Canon.region [6] [(⟨x, 2, none⟩, .int .i64 nx)] [(3, 0)] (.hold [0, 1, 2, 4, 5, 3] (.loud 6 (.seg [7, 8, 9, 10] .stop))) (by kernel_rfl) (by kernel_rfl) (by repeat (first | (with_reducible exact Safe.body) | (with_reducible apply Safe.then) | (with_reducible apply Safe.inBlock) | (dsimp +zetaDelta only))) ?_
          simp only [Canon.pick, Canon.wpPlan, List.getElem?_toArray, List.getElem?_cons_zero, List.getElem?_cons_succ]
          have KD9 : Keeps (fun _ => False) w9 w9.drew := (Keeps.refl _ w9).drew
          have hb9d := KD9.heap hb9 (fun h => h)
          have c2 : w9.drew.cell? ⟨x, 2, none⟩ = some (.int .i64 nx) := (cell_of_row w9.drew x 2 _ _ _ hb9d).trans rfl
          have z9 := KD9.size
          generalize w9.drew = wy at *
          refine ⟨fun p hp => by rw [List.mem_singleton] at hp; subst hp; exact c2, ?_⟩
          go_wp2_with (go_at_call 71; go_loud (refine Rets.use (HSp.out _) ?_); rintro _ _ ⟨rfl, rfl⟩)
          refine ⟨fun p hp => by rw [List.mem_singleton] at hp; subst hp; exact c2, ?_⟩
          go_wp2_with ((with_reducible refine at_store 3 (.tmp 79) (.tmp 77) rfl ?_); go_must (refine step_store1 rfl _ _ _ rfl x 2 (.int .i64 (nj : Int)) _ _ rfl rfl rfl hb9d (by simp) info_int ?_); intro w10 hb10 hk10 hs10)
          refine ⟨by rfl, ⟨fun _ => rfl, trivial⟩, ?_⟩
          go_wp2
          go_ret
          rw [HE.out]
          have z6 := hk6.size
          have z7 := hk7.size
          have z8 := hk8.size
          have z9' := hk9.size
          have z10 := hk10.size
          have szq := HK5.out.size
          have kA : Keeps (fun k => k = x) w8 w10 := (hk9.trans KD9 (fun _ _ h => h.elim)).trans hk10 (fun _ _ h => h)
          have kB : Keeps (fun k => k = x ∨ R k) w6 w10 := ((hk7.mono (fun _ _ h => h.elim)).trans hk8 (fun k _ h => .inr (HOq.out.2 k h))).trans kA (fun k _ h => .inl h)
          have kC : Keeps (fun k => k = x ∨ R k) wq w10 := (hk6.mono (fun _ _ h => h.elim)).trans kB (fun _ _ h => h)
          have hRw : ∀ k, R k → k < w.heap.size := fun k h => hQ k (hRQ k h)
          have hTw : ∀ k, T k → k < w.heap.size := fun k h => hQ k (hTQ k h)
          refine ⟨rfl, ((HK1.out.mono (fun _ _ h => h.elim)).trans HK5.out (fun k _ h => .inl h.1)).trans kC (fun k _ h => .inr (by rcases h with h | h; subst h; exact hQx; exact hRQ k h)), fun k => Q k ∨ (wq.heap.size ≤ k ∧ k < w10.heap.size), fun k h => ?_, (HD5.out.bound.kept kC (fun k h h' => ?_)).wide (fun k h => ?_), ⟨fun k => R k ∨ (w7.heap.size ≤ k ∧ k < w8.heap.size), fun k => T k ∨ (wq.heap.size ≤ k ∧ k < w6.heap.size), _, vs ++ [v6], hb10, .inl hQx, ?_, ?_, ?_, ?_, ?_, ?_, ?_⟩⟩
          · rcases h with h | h
            · exact ⟨.inl h, by have := hQ k h; omega⟩
            · exact ⟨.inr (by omega), h.2⟩
          · rcases h.1 with h1 | h1
            · rcases h' with h' | h'
              · subst h'; exact hxP h1.1
              · exact hPQ k h1.1 (hRQ k h')
            · rcases h' with h' | h'
              · omega
              · have := hRw k h'; omega
          · refine ⟨?_, ?_⟩
            · rcases h.1 with h1 | h1
              · exact .inl h1.1
              · exact .inr (by omega)
            · rintro (h2 | h2)
              · rcases h.1 with h1 | h1
                · exact hPQ k h1.1 h2
                · have := hQ k h2; omega
              · have := h.2; omega
          · rintro k (h | h)
            · exact .inl (hRQ k h)
            · exact .inr (by omega)
          · rintro k (h | h)
            · exact .inl (hTQ k h)
            · exact .inr (by omega)
          · rintro (h | h)
            · exact nR h
            · omega
          · rintro (h | h)
            · exact nT h
            · omega
          · rintro k (h | h) (h' | h')
            · exact hRT k h h'
            · have := hRw k h; omega
            · have := hTw k h'; omega
            · omega
          · simp only [List.length_append, List.length_singleton]
            refine (hO8.mono (ok' := fun k => R k ∨ (w7.heap.size ≤ k ∧ k < w8.heap.size)) (fun k hk h => ?_)).kept kA (fun k hk e => ?_)
            · rcases h with h | h
              · exact .inl h
              · exact .inr ⟨h, hk⟩
            · subst e
              rcases hk with h | h
              · exact nR h
              · omega
          · have hU : ∀ k, (T k ∨ (wq.heap.size ≤ k ∧ k < w6.heap.size)) → ¬ (k = x ∨ R k) := by
              rintro k (h | h) (h' | h')
              · subst h'; exact nT h
              · exact hRT k h' h
              · omega
              · have := hRw k h'; omega
            exact (((HTq.out.kept hk6 (fun _ _ h => h)).mono (T' := fun k => T k ∨ (wq.heap.size ≤ k ∧ k < w6.heap.size)) (fun k h => .inl h)).kept kB hU).push ((hO6.rd.lt.mono (ok' := fun k => T k ∨ (wq.heap.size ≤ k ∧ k < w6.heap.size)) (fun k h => .inr h)).kept kB hU)
        · rw [if_neg he] at HE
          have hen : ((layP s nx f).1 != 0) = true := by simpa using he
          clear he
          generalize layP s nx f = r at *
          obtain ⟨e, s5⟩ := r
          simp only at hen HE HLy
          have HBz := Lib.hid (HK1.out.heap HBx.out (fun h => h))
          go_wp2_with (first
            | ((with_reducible refine at_store 4 (.tmp 57) (.const (.bool true)) rfl ?_); go_must (refine step_store1 rfl _ _ _ rfl x 3 (.bool true) _ _ rfl rfl rfl hb5 (by simp) info_bool ?_); intro w6 hb6 hk6 hs6)
            | (go_at_call 74; go_loud (refine Rets.use HLy.out ?_); rintro v5 w5 ⟨rfl, hd5, hk5⟩; have hb5 := hk5.heap HBz.out (fun h => hxP h.1); have c0 := hk5.cell c0 (fun h => hxP h.1)))
          go_ret
          rw [HE.out]
          have z5 := hk5.size
          have z6 := hk6.size
          have hRP : ∀ k, Q k → ¬ (P k ∧ k < w.heap.size) := fun k h h' => hPQ k h'.1 h
          refine ⟨rfl, ((HK1.out.mono (fun _ _ h => h.elim)).trans hk5 (fun k _ h => .inl h.1)).trans hk6 (fun k _ h => .inr (by subst h; exact hQx)), Q, fun k h => ⟨.inl h, by have := hQ k h; omega⟩, (hd5.kept hk6 (fun k h e => ?_)).wide (fun k h => ?_), ⟨R, T, _, vs, hb6, hQx, hRQ, hTQ, nR, nT, hRT, ?_, ?_⟩⟩
          · subst e
            rcases h with h | h
            · exact hxP h.1
            · omega
          · rcases h with h | h
            · exact ⟨.inl h.1, hPQ k h.1⟩
            · exact ⟨.inr (by omega), fun h' => by have := hQ k h'; omega⟩
          · exact ((HO.out.kept HK1.out (fun _ _ h => h)).kept hk5 (fun k h => hRP k (hRQ k h))).kept hk6 (fun k h e => by subst e; exact nR h)
          · exact ((HTx.out.kept HK1.out (fun _ _ h => h)).kept hk5 (fun k h => hRP k (hTQ k h))).kept hk6 (fun k h e => by subst e; exact nT h)
end Go.Proofs.Ytbiohidelhfaiaa
end

section
namespace Go.Proofs.Ytbiohidelhfaiaa
open Go.RowKit Go.Canon Go.Mem Go.Args
open Go.Disk (St)
set_option linter.unusedVariables false
set_option linter.unusedSimpArgs false
section
variable {w : World} {x g : Nat} {Q : Nat → Prop} {L : LogS}
theorem size0_c (w : World) : Calls Try.prog 80 #[.int .i64 0] w (Rets (Only (.int .i64 20) w)) := by
  go_enter Try.func80, Try.ntmps80
  go_wp2
  go_ret
  exact ⟨rfl, rfl⟩
/-- How long the next text may be. -/
def roomP (N next : Nat) : Int := if 64 * ((N : Int) - next) - 20 < -1 then -1 else if 16384 < 64 * ((N : Int) - next) - 20 then 16384 else 64 * ((N : Int) - next) - 20
theorem texts_nil (w : World) : Calls Try.prog 51 #[.pointer none] w (Rets (Only (.slice none 0 0) w)) := by
  go_enter Try.func51, Try.ntmps51
  go_wp2
  go_ret
  exact ⟨rfl, rfl⟩
theorem texts_plain (c1 : w.cell? ⟨x, 1, none⟩ = some (.slice none 0 0)) : Calls Try.prog 51 #[.pointer (some ⟨x, 0, none⟩)] w (Rets (Only (.slice none 0 0) w)) := by
  go_enter Try.func51, Try.ntmps51
  go_wp2
  go_loopw [3, 13] (fun ov iv wr => ov = .slice none 0 0 ∧ iv = .int .i64 0 ∧ wr = w) (fun _ _ _ => 0)
  case atStart => exact ⟨rfl, rfl, rfl⟩
  case round =>
    obtain ⟨rfl, rfl, rfl⟩ := hrel
    go_wp2
    go_ret
    exact ⟨rfl, rfl⟩
theorem room_nil (w : World) : Calls Try.prog 63 #[.pointer none] w (Rets (Only (.int .i64 (-1)) w)) := by
  go_enter Try.func63, Try.ntmps63
  go_wp2
  go_ret
  exact ⟨rfl, rfl⟩
theorem room_plain (c0 : w.cell? ⟨x, 0, none⟩ = some (.pointer none)) : Calls Try.prog 63 #[.pointer (some ⟨x, 0, none⟩)] w (Rets (Only (.int .i64 (-1)) w)) := by
  go_enter Try.func63, Try.ntmps63
  go_wp2
  go_ret
  exact ⟨rfl, rfl⟩
theorem append_nil (w : World) (v : Value) : Calls Try.prog 54 #[.pointer none, v] w (Rets (Only (.int .i64 1) w)) := by
  go_enter Try.func54, Try.ntmps54
  go_wp2
  go_ret
  exact ⟨rfl, rfl⟩
theorem append_plain (c0 : w.cell? ⟨x, 0, none⟩ = some (.pointer none)) (v : Value) : Calls Try.prog 54 #[.pointer (some ⟨x, 0, none⟩), v] w (Rets (Only (.int .i64 1) w)) := by
  go_enter Try.func54, Try.ntmps54
  go_wp2
  go_ret
  exact ⟨rfl, rfl⟩
theorem open_nob {p : Value} (h : NoDisk w p) : Calls Try.prog 50 #[p] w (Rets (Only (.tuple #[.pointer none, .int .i64 1]) w)) := by
  have HS := Lib.hid (sectors_no h)
  clear h
  go_enter Try.func50, Try.ntmps50
  go_wp2_with (go_at_call 67; refine Rets.use HS.out ?_; rintro _ _ ⟨rfl, rfl⟩)
  go_ret2
  exact ⟨rfl, rfl⟩
/-- A log that no call made. -/
def NoLog (w : World) (p : Value) : Prop := p = .pointer none ∨ ∃ x, p = .pointer (some ⟨x, 0, none⟩) ∧ w.cell? ⟨x, 0, none⟩ = some (.pointer none) ∧ w.cell? ⟨x, 1, none⟩ = some (.slice none 0 0) ∧ w.cell? ⟨x, 2, none⟩ = some (.int .i64 0)
theorem texts_no {p : Value} (h : NoLog w p) : Calls Try.prog 51 #[p] w (Rets (Only (.slice none 0 0) w)) := by
  rcases h with rfl | ⟨x, rfl, c0, c1, c2⟩
  · exact texts_nil w
  · exact texts_plain c1
theorem room_no {p : Value} (h : NoLog w p) : Calls Try.prog 63 #[p] w (Rets (Only (.int .i64 (-1)) w)) := by
  rcases h with rfl | ⟨x, rfl, c0, c1, c2⟩
  · exact room_nil w
  · exact room_plain c0
theorem append_no {p : Value} (h : NoLog w p) (v : Value) : Calls Try.prog 54 #[p, v] w (Rets (Only (.int .i64 1) w)) := by
  rcases h with rfl | ⟨x, rfl, c0, c1, c2⟩
  · exact append_nil w v
  · exact append_plain c0 v
set_option maxHeartbeats 1600000 in
theorem texts_c (hm : LogMem w x Q g L) (hl : L.texts.length ≤ 4096) (hb : ∀ t ∈ L.texts, t.length ≤ 1000000) : Calls Try.prog 51 #[.pointer (some ⟨x, 0, none⟩)] w (Rets (AllPost w L.texts)) := by
  obtain ⟨R, T, v, vs, hbx, hQx, hRQ, hTQ, nR, nT, hRT, hO, hTx⟩ := hm
  obtain ⟨Av, cv, rfl, _⟩ := hO.slice
  have c1 : w.cell? ⟨x, 1, none⟩ = some (.slice Av L.texts.length cv) := (cell_of_row w x 1 _ _ _ hbx).trans rfl
  have HOs := Lib.hid hO.rd
  have HTx := Lib.hid hTx
  have HB := Lib.hid hb
  clear hbx hO hTx hb
  generalize L.texts = ls at *
  go_enter Try.func51, Try.ntmps51
  go_wp2
  go_loopw [3, 13] (fun o i wr => ∃ k : Nat, k ≤ ls.length ∧ i = .int .i64 k ∧ AllPost w (ls.take k) o wr) (fun _ i _ => ls.length - (intOf i).toNat)
  case atStart => exact ⟨0, Nat.zero_le _, rfl, Keeps.refl _ w, BytesRows.nil w w⟩
  case round =>
    obtain ⟨k, hk, rfl, hK, hR⟩ := hrel
    have HRk := Lib.hid hR
    obtain ⟨us, hO, hV⟩ := hR
    have htl : (ls.take k).length = k := by rw [List.length_take]; omega
    rw [htl] at hO
    have HV := Lib.hid hV
    have HO := Lib.hid hO
    have HK := Lib.hid hK
    have hsz := hK.size
    have hul := hO.len
    rw [Nat.mul_one] at hul
    obtain ⟨Ao, co, rfl, _⟩ := hO.slice
    have HTL := Lib.hid htl
    clear hV hO htl
    by_cases hlt : k < ls.length
    · obtain ⟨u, e1, hu⟩ := HTx.out.2 k _ (List.getElem?_eq_getElem hlt)
      have hvl := HTx.out.1
      obtain ⟨b, o, c, e, _, _, hcell⟩ := HOs.out.at (by intro e; rw [e] at e1; cases e1)
      cases e
      have cu := hK.cell (hcell k _ e1) (fun h => h)
      have HU := Lib.hid (hu.kept hK (fun _ _ h => h))
      have hlen := HB.out ls[k] (List.getElem_mem _)
      have HT2 := Lib.hid (show ls.take (k + 1) = ls.take k ++ [ls[k]] by rw [List.take_add_one, List.getElem?_eq_getElem hlt]; rfl)
      clear hcell hu e1
      generalize ls[k] = t at *
      have HC := Lib.hid (clone_c (w := wr) u t HU.out (by omega))
      go_wp2_with (first
        | ((with_reducible refine at_ 21 rfl ?_); go_must (refine step_append_rd (ok := fun j => (Value.slice Ao k co).ownBlock = some j) (ok2 := fun j => w.heap.size ≤ j) rfl _ _ _ rfl 23 _ 1 24 Try.underlying103 row_bytes rfl (by decide) (.slice Ao k co) k us rfl (own_self ((HO.out.kept hk1 (fun _ _ h => h)).kept hk2 (fun _ _ h => h))) _ 1 [v1] rfl (lit_rd (Rd.one hr1.rd) hb2 (by have := hk1.size; omega)) rfl (by intro x hx; rw [List.mem_singleton] at hx; subst hx; exact Rd.one hr1.rd) (by simp only [maxLen]; omega) (by omega) ?_); intro v' w' ho hk')
        | ((with_reducible refine at_ 20 rfl ?_); go_must (refine step_lit rfl 103 _ 1 rfl [v1] rfl rfl (by decide) 23 _ 1 Try.underlying103 row2_bytes (by decide) (by decide) (by intro v hv; rw [List.mem_singleton] at hv; subst hv; exact one_size (Rd.one hr1.rd)) ?_); intro w2 hb2 hk2 hs2)
        | (go_at_call 64; go_loud (refine Rets.use HC.out ?_); rintro v1 w1 ⟨hr1, hk1⟩))
      go_roundw
      case rel =>
        refine ⟨k + 1, hlt, by go_num, ((HK.out.trans hk1 (fun _ _ h => h)).trans hk2 (fun _ _ h => h)).trans hk' (fun j hj h => by have := HO.out.2 j h; omega), ?_⟩
        have hv' : ∀ j, (Value.slice Ao k co).ownBlock = some j → w.heap.size ≤ j ∧ j < wr.heap.size := fun j h => ⟨HO.out.2 j h, HO.out.lt j h⟩
        rw [HT2.out]
        refine BytesRows.push (wr := wr) hsz HV.out (by rw [HTL.out]; exact hul) hv' (hk1.trans hk2 (fun _ _ h => h)) ((hr1.rd.lt.kept hk2 (fun _ _ h => h)).mono (fun j h => ⟨h.1, by have := hk2.size; omega⟩)) hk' ?_
        rw [HTL.out]
        exact ho.mono (fun j hj h => by rcases h with h | h; exact .inl h; exact .inr h)
      case measure => simp [intOf]; omega
    · obtain rfl : k = ls.length := by omega
      go_wp2
      go_ret
      have := HRk.out
      rw [List.take_length] at this
      exact ⟨HK.out, this⟩
end
end Go.Proofs.Ytbiohidelhfaiaa
end

section
namespace Go.Proofs.Ytbiohidelhfaiaa
open Go.RowKit Go.Canon Go.Mem Go.Args
open Go.Disk (St)
open Go.Proofs.Ytbiohidelhfaiaa.Sto (Chg)
set_option linter.unusedVariables false
set_option linter.unusedSimpArgs false
structure StoS where
  L : LogS
  q : Int
  M : Sto.Mp
  u : Int
  n : Nat
namespace Sto
/-- What would be used. -/
def thenGo (M : Mp) (t : Int) (l : List Chg) : Int := l.foldl (fun t c => if c.del = true then t - costF M c.key else t - costF M c.key + (c.key.length + c.val.length)) t
theorem thenGo_next (M : Mp) (t : Int) {l : List Chg} {k : Nat} (h : k < l.length) : thenGo M t (l.take (k + 1)) = if l[k].del = true then thenGo M t (l.take k) - costF M l[k].key else thenGo M t (l.take k) - costF M l[k].key + (l[k].key.length + l[k].val.length) := by
  unfold thenGo
  rw [List.take_add_one, List.getElem?_eq_getElem h, List.foldl_append]; rfl
end Sto
def commitP (s : St) (S : StoS) (l : List Chg) : Int × St × StoS :=
  if Sto.chk l ≠ 0 then (Sto.chk l, s, S)
  else if S.q < Sto.thenGo S.M S.u l ∧ S.u < Sto.thenGo S.M S.u l then (12, s, S)
  else if (appendP s S.L (Sto.encL l)).1 ≠ 0 then ((appendP s S.L (Sto.encL l)).1, (appendP s S.L (Sto.encL l)).2.1, { S with L := (appendP s S.L (Sto.encL l)).2.2 })
  else (0, (appendP s S.L (Sto.encL l)).2.1, ⟨(appendP s S.L (Sto.encL l)).2.2, S.q, (Sto.doF (S.M, S.u) l).1, (Sto.doF (S.M, S.u) l).2, S.n + l.length⟩)
/-- A disk, a log, a store in memory, apart. -/
structure SP (W w : World) (g x y bm : Nat) (P Q R : Nat → Prop) (s : St) (S : StoS) : Prop where
  d : DIs w P g s
  m : LogMem w y Q g S.L
  s : SIs w x bm R (.pointer (some ⟨y, 0, none⟩)) S.q S.n (S.M, S.u)
  p : ∀ k, P k → W.heap.size ≤ k ∧ k < w.heap.size ∧ ¬ Q k ∧ ¬ R k ∧ k ≠ x ∧ k ≠ bm
  q : ∀ k, Q k → W.heap.size ≤ k ∧ k < w.heap.size ∧ ¬ R k ∧ k ≠ x ∧ k ≠ bm
  r : ∀ k, R k → W.heap.size ≤ k ∧ k < w.heap.size
  x : W.heap.size ≤ x
  b : W.heap.size ≤ bm
theorem SP.kept {W w w' : World} {g x y bm : Nat} {P Q R : Nat → Prop} {s : St} {S : StoS} (h : SP W w g x y bm P Q R s S) (hk : Keeps (fun _ => False) w w') : SP W w' g x y bm P Q R s S := by
  have hz := hk.size
  exact ⟨h.d.kept hk (fun _ _ h => h), h.m.kept hk (fun _ _ h => h), h.s.kept0 hk, fun k hp => by have := h.p k hp; exact ⟨this.1, by omega, this.2.2⟩, fun k hq => by have := h.q k hq; exact ⟨this.1, by omega, this.2.2⟩, fun k hr => by have := h.r k hr; exact ⟨this.1, by omega⟩, h.x, h.b⟩
theorem SP.append {W w w' : World} {g x y bm : Nat} {P Q R : Nat → Prop} {s : St} {S : StoS} (h : SP W w g x y bm P Q R s S) (hW : W.heap.size ≤ w.heap.size) {r : Int × St × LogS} {v : Value} (hp : APost w P Q g y r v w') : ∃ P' Q', SP W w' g x y bm P' Q' R r.2.1 { S with L := r.2.2 } ∧ ∀ k, P' k ∨ Q' k → P k ∨ Q k ∨ w.heap.size ≤ k := by
  obtain ⟨rfl, hk, Q', hQ', hd, hm⟩ := hp
  have hz := hk.size
  have hlx := h.s.lt
  refine ⟨_, Q', ⟨hd.bound, hm, h.s.kept hk (fun e => e.elim (fun e => (h.p _ e).2.2.2.2.1 rfl) (fun e => (h.q _ e).2.2.2.1 rfl)) (fun e => e.elim (fun e => (h.p _ e).2.2.2.2.2 rfl) (fun e => (h.q _ e).2.2.2.2 rfl)) (fun j hj e => e.elim (fun e => (h.p _ e).2.2.2.1 hj) (fun e => (h.q _ e).2.2.1 hj)), ?_, ?_, fun k hr => by have := h.r k hr; exact ⟨this.1, by omega⟩, h.x, h.b⟩, fun k e => ?_⟩
  · rintro k ⟨⟨h1, h2⟩, h3⟩
    rcases h1 with h1 | h1
    · have := h.p k h1
      exact ⟨this.1, h3, h2, this.2.2.2⟩
    · exact ⟨by omega, h3, h2, fun e => by have := h.r k e; omega, by omega, by omega⟩
  · intro k hq
    obtain ⟨h1, h3⟩ := hQ' k hq
    rcases h1 with h1 | h1
    · have := h.q k h1
      exact ⟨this.1, h3, this.2.2⟩
    · exact ⟨by omega, h3, fun e => by have := h.r k e; omega, by omega, by omega⟩
  · rcases e with ⟨⟨h1 | h1, _⟩, _⟩ | hq
    · exact .inl h1
    · exact .inr (.inr h1)
    · rcases (hQ' k hq).1 with h1 | h1
      · exact .inr (.inl h1)
      · exact .inr (.inr h1)
theorem SP.does {W w w' : World} {g x y bm n : Nat} {P Q R : Nat → Prop} {s : St} {S : StoS} {s' : Sto.Mp × Int} {v : Value} (h : SP W w g x y bm P Q R s S) (hW : W.heap.size ≤ w.heap.size) (hp : DoPost w x bm R (.pointer (some ⟨y, 0, none⟩)) S.q n s' v w') : ∃ R', SP W w' g x y bm P Q R' s ⟨S.L, S.q, s'.1, s'.2, n⟩ ∧ ∀ k, R' k → R k ∨ w.heap.size ≤ k := by
  obtain ⟨rfl, hk, hs⟩ := hp
  have hz := hk.size
  have hlx := h.s.lt
  refine ⟨fun j => (R j ∨ w.heap.size ≤ j) ∧ j < w'.heap.size, ⟨h.d.kept hk (fun k hk e => by have := h.p k hk; rcases e with e | e; exact this.2.2.2.2.1 e; exact this.2.2.2.2.2 e), h.m.kept hk (fun k hk e => by have := h.q k hk; rcases e with e | e; exact this.2.2.2.1 e; exact this.2.2.2.2 e), ⟨hs.blk, hs.map.mono (Nat.le_refl _) (fun j hj h => ⟨h, hj⟩), fun e => hs.r1 e.1, fun e => hs.r2 e.1, hs.ne⟩, ?_, ?_, ?_, h.x, h.b⟩, fun k e => e.1⟩
  · intro k hp
    have := h.p k hp
    exact ⟨this.1, by omega, this.2.2.1, fun e => e.1.elim this.2.2.2.1 (fun e => by omega), this.2.2.2.2⟩
  · intro k hq
    have := h.q k hq
    exact ⟨this.1, by omega, fun e => e.1.elim this.2.2.1 (fun e => by omega), this.2.2.2⟩
  · rintro k ⟨h1 | h1, h2⟩
    · exact ⟨(h.r k h1).1, h2⟩
    · exact ⟨by omega, h2⟩
def SL (W w : World) (g x : Nat) (s : St) (S : StoS) : Prop := Keeps (fun _ => False) W w ∧ ∃ (y bm : Nat) (P Q R : Nat → Prop), SP W w g x y bm P Q R s S
theorem SL.kept {W w w' : World} {g x : Nat} {s : St} {S : StoS} (h : SL W w g x s S) (hk : Keeps (fun _ => False) w w') : SL W w' g x s S := by
  obtain ⟨h0, y, bm, P, Q, R, h⟩ := h
  exact ⟨h0.trans hk (fun _ _ h => h), y, bm, P, Q, R, h.kept hk⟩
/-- The same, and a set of blocks that holds all of its own. -/
def SLZ (W w : World) (Z : Nat → Prop) (g x : Nat) (s : St) (S : StoS) : Prop := Keeps (fun _ => False) W w ∧ (∀ k, Z k → W.heap.size ≤ k) ∧ ∃ (y bm : Nat) (P Q R : Nat → Prop), SP W w g x y bm P Q R s S ∧ ∀ k, P k ∨ Q k ∨ R k ∨ k = x ∨ k = bm → Z k
theorem SLZ.kept {W w w' : World} {Z : Nat → Prop} {g x : Nat} {s : St} {S : StoS} (h : SLZ W w Z g x s S) (hk : Keeps (fun _ => False) w w') : SLZ W w' Z g x s S := by
  obtain ⟨h0, hZ, y, bm, P, Q, R, h, h2⟩ := h
  exact ⟨h0.trans hk (fun _ _ h => h), hZ, y, bm, P, Q, R, h.kept hk, h2⟩
theorem SLZ.mono {W w : World} {Z Z' : Nat → Prop} {g x : Nat} {s : St} {S : StoS} (h : SLZ W w Z g x s S) (h1 : ∀ k, Z k → Z' k) (h2 : ∀ k, Z' k → W.heap.size ≤ k) : SLZ W w Z' g x s S := by
  obtain ⟨h0, hZ, y, bm, P, Q, R, h, h3⟩ := h
  exact ⟨h0, h2, y, bm, P, Q, R, h, fun k hk => h1 k (h3 k hk)⟩
theorem SLZ.sl {W w : World} {Z : Nat → Prop} {g x : Nat} {s : St} {S : StoS} (h : SLZ W w Z g x s S) : SL W w g x s S := by
  obtain ⟨h0, hZ, y, bm, P, Q, R, h, h3⟩ := h
  exact ⟨h0, y, bm, P, Q, R, h⟩
theorem SL.z {W w w' : World} {g x : Nat} {s : St} {S : StoS} (h : SL W w g x s S) (hk : Keeps (fun _ => False) w w') : SLZ W w' (fun k => W.heap.size ≤ k ∧ k < w.heap.size) g x s S := by
  obtain ⟨h0, y, bm, P, Q, R, h⟩ := h
  refine ⟨h0.trans hk (fun _ _ h => h), fun k h => h.1, y, bm, P, Q, R, h.kept hk, fun k e => ?_⟩
  have h1 := h.s.lt
  have h3 := h.x
  have h4 := h.b
  rcases e with e | e | e | rfl | rfl
  · have := h.p k e; omega
  · have := h.q k e; omega
  · have := h.r k e; omega
  · omega
  · omega
def ComPostZ (W w : World) (Z : Nat → Prop) (g x : Nat) (r : Int × St × StoS) : Value → World → Prop := fun v w' => v = .int .i64 r.1 ∧ SLZ W w' (fun k => Z k ∨ w.heap.size ≤ k) g x r.2.1 r.2.2 ∧ Keeps Z w w'
def ComPost (W w0 w : World) (g x : Nat) (r : Int × St × StoS) : Value → World → Prop := fun v w' => v = .int .i64 r.1 ∧ SL W w' g x r.2.1 r.2.2 ∧ Keeps (fun k => W.heap.size ≤ k ∧ k < w0.heap.size) w w'
theorem enc_len {l : List Chg} (h : Sto.chk l = 0) : (Sto.encL l).length ≤ 100000 := by
  obtain ⟨h1, h2, h3⟩ := Sto.chk_good h
  have := encs_len l (fun c hc => (h1 c hc).2)
  have := varF_len l.length
  unfold Sto.encL
  rw [List.length_append]
  omega
set_option maxHeartbeats 12800000 in
set_option maxRecDepth 100000 in
theorem commitz_c {W w : World} {Z ok : Nat → Prop} {g x : Nat} {s : St} {S : StoS} (h : SLZ W w Z g x s S) (few : s.opn.length ≤ 900000) (hnx : S.L.next ≤ s.now.length) (htx : S.L.texts.length ≤ 4096) (hn : S.n ≤ 900000) (hu : -100000000000000 ≤ S.u ∧ S.u ≤ 100000000000000)
    (l : List Chg) (hB : ChgB l) (hl : l.length ≤ 1000000) (v : Value) (hc : Chgs w ok v l) (hok : ∀ k, ok k → ¬ Z k ∧ k < w.heap.size) : Calls Try.prog 26 #[.pointer (some ⟨x, 0, none⟩), v] w (Rets (ComPostZ W w Z g x (commitP s S l))) := by
  have HSL := Lib.hid h
  obtain ⟨h0, hZW, y, bm, P, Q, R, h, hZ⟩ := h
  have HZW := Lib.hid hZW
  have HZZ := Lib.hid hZ
  have HPQ := Lib.hid (show (∀ k, P k ∨ Q k → k < w.heap.size) from fun k hk => hk.elim (fun e => (h.p k e).2.1) (fun e => (h.q k e).2.1))
  have HR0 := Lib.hid h.r
  have hz0 := h0.size
  have hx0 := h.x
  have hb0 := h.b
  have hS := h.s
  have hlx := hS.lt
  obtain ⟨A, c, rfl, hlc, _, _⟩ := id hc
  have x0 : w.cell? ⟨x, 0, none⟩ = some (.pointer (some ⟨y, 0, none⟩)) := (cell_of_row w _ 0 _ _ _ hS.blk).trans rfl
  have x1 : w.cell? ⟨x, 1, none⟩ = some (.int .i64 S.q) := (cell_of_row w _ 1 _ _ _ hS.blk).trans rfl
  have x2 : w.cell? ⟨x, 2, none⟩ = some (.int .i64 S.u) := hS.c2
  have HE := Lib.hid (encode_c l hB hl _ hc (fun k hk => (hok k hk).2))
  have HB := Lib.hid hB
  have HC := Lib.hid hc
  have HS := Lib.hid hS
  have HW := Lib.hid h0
  have H := Lib.hid h
  have HOk := Lib.hid hok
  clear hB hc hS h0 hok h hZ hZW
  by_cases hz : Sto.chk l = 0
  · obtain ⟨hg, hl1, hl16⟩ := Sto.chk_good hz
    have HG := Lib.hid hg
    rw [show Sto.enc l = (Sto.encL l, 0) by unfold Sto.enc; rw [if_neg (fun h => h hz)]] at HE
    have HZ := Lib.hid hz
    have hel := enc_len hz
    clear hz hg
    generalize hE : Sto.encL l = b at *
    have HEb := Lib.hid hE
    clear hE
    go_enter Try.func26, Try.ntmps26
    go_wp2_with (go_at_call 12; refine Rets.use HE.out ?_; rintro v2 w2 ⟨hk2, u2, rfl, hO2⟩; have x0 := hk2.cell x0 (fun h => h); have x1 := hk2.cell x1 (fun h => h); have x2 := hk2.cell x2 (fun h => h))
    have HO2 := Lib.hid hO2
    have HK2 := Lib.hid hk2
    have hz2 := hk2.size
    have HX0 := Lib.hid x0
    have HX1 := Lib.hid x1
    have HX2 := Lib.hid x2
    have HS2 := Lib.hid (HS.out.kept0 hk2)
    clear hO2 hk2 x0 x1 x2
    go_loopw [7, 34] (fun tv iv wr => ∃ (k : Nat) (t : Int), k ≤ l.length ∧ tv = .int .i64 t ∧ iv = .int .i64 k ∧ Hid (t = Sto.thenGo S.M S.u (l.take k)) ∧ S.u - 4000000 * k ≤ t ∧ t ≤ S.u + 4000000 * k ∧ Keeps (fun _ => False) w2 wr) (fun _ iv _ => l.length - (intOf iv).toNat)
    case atStart => exact ⟨0, S.u, Nat.zero_le _, rfl, rfl, Lib.hid rfl, by omega, by omega, Keeps.refl _ _⟩
    case round =>
      obtain ⟨k, t, hk, rfl, rfl, HT, ht1, ht2, hkr⟩ := hrel
      have HKr := Lib.hid hkr
      have hwr := hkr.size
      by_cases hlt : k < l.length
      · obtain ⟨A', c', e, _, _, hin⟩ := HC.out
        cases e
        obtain ⟨b1, o, e, hb0, vV, c0, c1, c2, hrV⟩ := hin k _ (List.getElem?_eq_getElem hlt)
        cases e
        obtain ⟨Av, cv, rfl, _⟩ := hrV.slice
        obtain ⟨hb1, hb2, hb3, hb4⟩ := HB.out _ (List.getElem_mem hlt)
        have HN := Lib.hid (Sto.thenGo_next S.M S.u hlt)
        have hkw := HK2.out.trans hkr (fun _ _ h => h)
        have c0 := hkw.cell c0 (fun h => h)
        have c1 := hkw.cell c1 (fun h => h)
        have c2 := hkw.cell c2 (fun h => h)
        have hcs := HS.out.map.cost hb1 hb3
        have HCo := Lib.hid (fun (w' : World) (h : SIs w' x bm R (.pointer (some ⟨y, 0, none⟩)) S.q S.n (S.M, S.u)) => cost_c h.c3 h.map l[k].key hb1 hb3)
        generalize l[k] = d at *
        obtain ⟨key, del, val⟩ := d
        simp only at c0 c1 c2 hb1 hb2 hb3 hb4 HN hcs HCo
        have zk := str_size key
        obtain ⟨sk, hsk⟩ : ∃ s, s = str key := ⟨_, rfl⟩
        rw [← hsk] at c0 zk HCo
        have HSr := Lib.hid (HS2.out.kept0 hkr)
        clear hin hrV hkr hsk hb1 hb2 hkw
        cases del with
        | true =>
          go_wp2_with (first
            | ((with_reducible refine at_ 9 rfl ?_); go_must (refine step_alloc rfl _ rfl _ chgZ row_chg rfl ?_); intro w3 hb3' hk3 hs3)
            | ((with_reducible refine at_store 41 (.tmp 9) (.tmp 37) rfl ?_); go_must (refine step_store rfl _ _ _ rfl wr.heap.size 0 [.string sk, .bool true, .slice Av val.length cv] _ _ rfl rfl hb3' (by simp [chgZ]) info_chg (by simp [Value.oneCell']) ?_); intro w4 hb4' hk4 hs4; rw [put_whole (by rfl)] at hb4'; have d0 : w4.cell? ⟨wr.heap.size, 0, none⟩ = some (.string sk) := cell_of_row w4 _ _ _ _ _ hb4'; have d1 : w4.cell? ⟨wr.heap.size, 1, none⟩ = some (.bool true) := cell_of_row w4 _ _ _ _ _ hb4'; have d2 : w4.cell? ⟨wr.heap.size, 2, none⟩ = some (.slice Av val.length cv) := cell_of_row w4 _ _ _ _ _ hb4'; have KS := (((Keeps.refl (fun _ => False) wr).trans hk3 (fun _ _ h => h) |>.mono (S' := fun j => wr.heap.size ≤ j) (fun _ _ h => h.elim)).trans hk4 (fun j _ h => by omega) |>.mono (S' := fun _ => False) (fun j hj h => by omega)); have HK4 := Lib.hid (HKr.out.trans KS (fun _ _ h => h)); have HS4 := Lib.hid (HSr.out.kept0 KS))
            | (go_at_call 53; refine Rets.use (HCo.out _ HS4.out) ?_; rintro _ _ ⟨rfl, rfl⟩))
          go_roundw
          case rel => exact ⟨k + 1, t - Sto.costF S.M key, hlt, rfl, by go_num, Lib.hid (by rw [HN.out, HT.out]; simp), by omega, by omega, HK4.out⟩
          case measure => simp [intOf]; omega
        | false =>
          go_wp2_with (first
            | ((with_reducible refine at_ 9 rfl ?_); go_must (refine step_alloc rfl _ rfl _ chgZ row_chg rfl ?_); intro w3 hb3' hk3 hs3)
            | ((with_reducible refine at_store 41 (.tmp 9) (.tmp 37) rfl ?_); go_must (refine step_store rfl _ _ _ rfl wr.heap.size 0 [.string sk, .bool false, .slice Av val.length cv] _ _ rfl rfl hb3' (by simp [chgZ]) info_chg (by simp [Value.oneCell']) ?_); intro w4 hb4' hk4 hs4; rw [put_whole (by rfl)] at hb4'; have d0 : w4.cell? ⟨wr.heap.size, 0, none⟩ = some (.string sk) := cell_of_row w4 _ _ _ _ _ hb4'; have d1 : w4.cell? ⟨wr.heap.size, 1, none⟩ = some (.bool false) := cell_of_row w4 _ _ _ _ _ hb4'; have d2 : w4.cell? ⟨wr.heap.size, 2, none⟩ = some (.slice Av val.length cv) := cell_of_row w4 _ _ _ _ _ hb4'; have KS := (((Keeps.refl (fun _ => False) wr).trans hk3 (fun _ _ h => h) |>.mono (S' := fun j => wr.heap.size ≤ j) (fun _ _ h => h.elim)).trans hk4 (fun j _ h => by omega) |>.mono (S' := fun _ => False) (fun j hj h => by omega)); have HK4 := Lib.hid (HKr.out.trans KS (fun _ _ h => h)); have HS4 := Lib.hid (HSr.out.kept0 KS))
            | (go_at_call 53; refine Rets.use (HCo.out _ HS4.out) ?_; rintro _ _ ⟨rfl, rfl⟩))
          go_roundw
          case rel => exact ⟨k + 1, t - Sto.costF S.M key + (key.length + val.length), hlt, rfl, by go_num, Lib.hid (by rw [HN.out, HT.out]; simp), by omega, by omega, HK4.out⟩
          case measure => simp [intOf]; omega
      · obtain rfl : k = l.length := by omega
        rw [List.take_length] at HT
        have x0 := hkr.cell HX0.out (fun h => h)
        have x1 := hkr.cell HX1.out (fun h => h)
        have x2 := hkr.cell HX2.out (fun h => h)
        have HF := Lib.hid (show commitP s S l = if S.q < t ∧ S.u < t then (12, s, S)
          else if (appendP s S.L b).1 ≠ 0 then ((appendP s S.L b).1, (appendP s S.L b).2.1, { S with L := (appendP s S.L b).2.2 })
          else (0, (appendP s S.L b).2.1, ⟨(appendP s S.L b).2.2, S.q, (Sto.doF (S.M, S.u) l).1, (Sto.doF (S.M, S.u) l).2, S.n + l.length⟩) by
          unfold commitP; rw [if_neg (fun h => h HZ.out), ← HT.out, HEb.out])
        have hkw := HK2.out.trans hkr (fun _ _ h => h)
        have HKw := Lib.hid hkw
        have Hr := Lib.hid (H.out.kept hkw)
        clear hkr hkw HT
        by_cases hqt : S.q < t
        · by_cases hut : S.u < t
          · have HZ2 := Lib.hid (show commitP s S l = (12, s, S) by rw [HF.out, if_pos ⟨hqt, hut⟩])
            go_wp2
            go_ret
            rw [HZ2.out]
            exact ⟨rfl, (HSL.out.kept HKw.out).mono (fun _ h => .inl h) (fun k h => h.elim (HZW.out k) (fun h => by omega)), HKw.out.mono (fun _ _ h => h.elim)⟩
          · have HF2 := Lib.hid (HF.out.trans (if_neg (fun h => hut h.2)))
            have HA := Lib.hid (append_c (w := wr) (ok := fun j => w.heap.size ≤ j ∧ j < w2.heap.size) Hr.out.d Hr.out.m (fun k h => (Hr.out.p k h).2.2.1) (fun k h => (Hr.out.q k h).2.1) few hnx htx u2 b (((HO2.out.mono (fun j hj h => ⟨h, hj⟩)).rd).kept HKr.out (fun _ _ h => h)) (fun k h => ⟨fun e => by have := HPQ.out k (.inl e); omega, fun e => by have := HPQ.out k (.inr e); omega⟩) (by omega))
            cases hr : appendP s S.L b with
            | mk e r2 =>
              rw [hr] at HA HF2
              obtain ⟨s', L'⟩ := r2
              simp only at HF2
              clear hr
              by_cases he : e = 0
              · subst he
                have HF3 := Lib.hid (HF2.out.trans (if_neg (fun h => h rfl)))
                go_wp2_with (first
                  | (go_at_call 54; refine Rets.use HA.out ?_; intro v3 w3 hp3; obtain rfl := hp3.1; have hk3 := hp3.2.1; have H3 := Lib.hid (Hr.out.append (by omega) hp3))
                  | (go_at_call 52; refine Rets.use (do_c (ok := ok) (R := R) (n := S.n) (s := (S.M, S.u)) H3.out.choose_spec.choose_spec.1.s (fun k h => by have := HR0.out k h; have := hk3.size; omega) l HB.out hl (by omega) ⟨by show _ ≤ S.u; omega, by show S.u ≤ _; omega⟩ _ ((HC.out.kept HKw.out (fun _ _ h => h)).kept hk3 (fun k h e => (HOk.out k h).1 (HZZ.out k (e.elim .inl (fun e => .inr (.inl e)))))) (fun k h => by have h9 := HOk.out k h; have := hk3.size; exact ⟨by omega, fun e => h9.1 (HZZ.out k (.inr (.inr (.inr (.inl e))))), fun e => h9.1 (HZZ.out k (.inr (.inr (.inr (.inr e)))))⟩)) ?_; intro v5 w5 hp5))
                obtain ⟨P3, Q3, h3, hs3⟩ := H3.out
                obtain ⟨R5, h5, hs5⟩ := h3.does (by have := hk3.size; omega) hp5
                obtain ⟨rfl, hk5, _⟩ := hp5
                go_wp2
                go_ret
                rw [HF3.out]
                have hk35 : Keeps Z w w5 := ((HKw.out.mono (S' := Z) (fun _ _ h => h.elim)).trans hk3 (fun k _ h => HZZ.out k (h.elim .inl (fun e => .inr (.inl e))))).trans hk5 (fun k _ h => HZZ.out k (.inr (.inr (.inr h))))
                have hz3 := hk3.size
                exact ⟨rfl, ⟨HW.out.trans hk35 (fun k hk h => by have := HZW.out k h; omega), fun k h => h.elim (HZW.out k) (fun (h : w.heap.size ≤ k) => by omega), y, bm, P3, Q3, R5, h5, fun k h => by
                  rcases h with h | h | h | h | h
                  · rcases hs3 k (.inl h) with e | e | e
                    · exact .inl (HZZ.out k (.inl e))
                    · exact .inl (HZZ.out k (.inr (.inl e)))
                    · exact .inr (by omega)
                  · rcases hs3 k (.inr h) with e | e | e
                    · exact .inl (HZZ.out k (.inl e))
                    · exact .inl (HZZ.out k (.inr (.inl e)))
                    · exact .inr (by omega)
                  · rcases hs5 k h with e | e
                    · exact .inl (HZZ.out k (.inr (.inr (.inl e))))
                    · exact .inr (by omega)
                  · exact .inl (HZZ.out k (.inr (.inr (.inr (.inl h)))))
                  · exact .inl (HZZ.out k (.inr (.inr (.inr (.inr h)))))⟩, hk35⟩
              · have HF3 := Lib.hid (HF2.out.trans (if_pos he))
                have hqe : (e != 0) = true := by simpa using he
                go_wp2_with (go_at_call 54; refine Rets.use HA.out ?_; intro v3 w3 hp3; obtain rfl := hp3.1; have hk3 := hp3.2.1; have H3 := Lib.hid (Hr.out.append (by omega) hp3))
                obtain ⟨P3, Q3, h3, hs3⟩ := H3.out
                go_ret
                rw [HF3.out]
                have hk35 : Keeps Z w w3 := ((HKw.out.mono (S' := Z) (fun _ _ h => h.elim)).trans hk3 (fun k _ h => HZZ.out k (h.elim .inl (fun e => .inr (.inl e)))))
                exact ⟨rfl, ⟨HW.out.trans hk35 (fun k hk h => by have := HZW.out k h; omega), fun k h => h.elim (HZW.out k) (fun (h : w.heap.size ≤ k) => by omega), y, bm, P3, Q3, R, h3, fun k h => by
                  rcases h with h | h | h | h | h
                  · rcases hs3 k (.inl h) with e | e | e
                    · exact .inl (HZZ.out k (.inl e))
                    · exact .inl (HZZ.out k (.inr (.inl e)))
                    · exact .inr (by omega)
                  · rcases hs3 k (.inr h) with e | e | e
                    · exact .inl (HZZ.out k (.inl e))
                    · exact .inl (HZZ.out k (.inr (.inl e)))
                    · exact .inr (by omega)
                  · exact .inl (HZZ.out k (.inr (.inr (.inl h))))
                  · exact .inl (HZZ.out k (.inr (.inr (.inr (.inl h)))))
                  · exact .inl (HZZ.out k (.inr (.inr (.inr (.inr h)))))⟩, hk35⟩
        · have HF2 := Lib.hid (HF.out.trans (if_neg (fun h => hqt h.1)))
          have HA := Lib.hid (append_c (w := wr) (ok := fun j => w.heap.size ≤ j ∧ j < w2.heap.size) Hr.out.d Hr.out.m (fun k h => (Hr.out.p k h).2.2.1) (fun k h => (Hr.out.q k h).2.1) few hnx htx u2 b (((HO2.out.mono (fun j hj h => ⟨h, hj⟩)).rd).kept HKr.out (fun _ _ h => h)) (fun k h => ⟨fun e => by have := HPQ.out k (.inl e); omega, fun e => by have := HPQ.out k (.inr e); omega⟩) (by omega))
          cases hr : appendP s S.L b with
          | mk e r2 =>
            rw [hr] at HA HF2
            obtain ⟨s', L'⟩ := r2
            simp only at HF2
            clear hr
            by_cases he : e = 0
            · subst he
              have HF3 := Lib.hid (HF2.out.trans (if_neg (fun h => h rfl)))
              go_wp2_with (first
                | (go_at_call 54; refine Rets.use HA.out ?_; intro v3 w3 hp3; obtain rfl := hp3.1; have hk3 := hp3.2.1; have H3 := Lib.hid (Hr.out.append (by omega) hp3))
                | (go_at_call 52; refine Rets.use (do_c (ok := ok) (R := R) (n := S.n) (s := (S.M, S.u)) H3.out.choose_spec.choose_spec.1.s (fun k h => by have := HR0.out k h; have := hk3.size; omega) l HB.out hl (by omega) ⟨by show _ ≤ S.u; omega, by show S.u ≤ _; omega⟩ _ ((HC.out.kept HKw.out (fun _ _ h => h)).kept hk3 (fun k h e => (HOk.out k h).1 (HZZ.out k (e.elim .inl (fun e => .inr (.inl e)))))) (fun k h => by have h9 := HOk.out k h; have := hk3.size; exact ⟨by omega, fun e => h9.1 (HZZ.out k (.inr (.inr (.inr (.inl e))))), fun e => h9.1 (HZZ.out k (.inr (.inr (.inr (.inr e)))))⟩)) ?_; intro v5 w5 hp5))
              obtain ⟨P3, Q3, h3, hs3⟩ := H3.out
              obtain ⟨R5, h5, hs5⟩ := h3.does (by have := hk3.size; omega) hp5
              obtain ⟨rfl, hk5, _⟩ := hp5
              go_wp2
              go_ret
              rw [HF3.out]
              have hk35 : Keeps Z w w5 := ((HKw.out.mono (S' := Z) (fun _ _ h => h.elim)).trans hk3 (fun k _ h => HZZ.out k (h.elim .inl (fun e => .inr (.inl e))))).trans hk5 (fun k _ h => HZZ.out k (.inr (.inr (.inr h))))
              have hz3 := hk3.size
              exact ⟨rfl, ⟨HW.out.trans hk35 (fun k hk h => by have := HZW.out k h; omega), fun k h => h.elim (HZW.out k) (fun (h : w.heap.size ≤ k) => by omega), y, bm, P3, Q3, R5, h5, fun k h => by
                rcases h with h | h | h | h | h
                · rcases hs3 k (.inl h) with e | e | e
                  · exact .inl (HZZ.out k (.inl e))
                  · exact .inl (HZZ.out k (.inr (.inl e)))
                  · exact .inr (by omega)
                · rcases hs3 k (.inr h) with e | e | e
                  · exact .inl (HZZ.out k (.inl e))
                  · exact .inl (HZZ.out k (.inr (.inl e)))
                  · exact .inr (by omega)
                · rcases hs5 k h with e | e
                  · exact .inl (HZZ.out k (.inr (.inr (.inl e))))
                  · exact .inr (by omega)
                · exact .inl (HZZ.out k (.inr (.inr (.inr (.inl h)))))
                · exact .inl (HZZ.out k (.inr (.inr (.inr (.inr h)))))⟩, hk35⟩
            · have HF3 := Lib.hid (HF2.out.trans (if_pos he))
              have hqe : (e != 0) = true := by simpa using he
              go_wp2_with (go_at_call 54; refine Rets.use HA.out ?_; intro v3 w3 hp3; obtain rfl := hp3.1; have hk3 := hp3.2.1; have H3 := Lib.hid (Hr.out.append (by omega) hp3))
              obtain ⟨P3, Q3, h3, hs3⟩ := H3.out
              go_ret
              rw [HF3.out]
              have hk35 : Keeps Z w w3 := ((HKw.out.mono (S' := Z) (fun _ _ h => h.elim)).trans hk3 (fun k _ h => HZZ.out k (h.elim .inl (fun e => .inr (.inl e)))))
              exact ⟨rfl, ⟨HW.out.trans hk35 (fun k hk h => by have := HZW.out k h; omega), fun k h => h.elim (HZW.out k) (fun (h : w.heap.size ≤ k) => by omega), y, bm, P3, Q3, R, h3, fun k h => by
                rcases h with h | h | h | h | h
                · rcases hs3 k (.inl h) with e | e | e
                  · exact .inl (HZZ.out k (.inl e))
                  · exact .inl (HZZ.out k (.inr (.inl e)))
                  · exact .inr (by omega)
                · rcases hs3 k (.inr h) with e | e | e
                  · exact .inl (HZZ.out k (.inl e))
                  · exact .inl (HZZ.out k (.inr (.inl e)))
                  · exact .inr (by omega)
                · exact .inl (HZZ.out k (.inr (.inr (.inl h))))
                · exact .inl (HZZ.out k (.inr (.inr (.inr (.inl h)))))
                · exact .inl (HZZ.out k (.inr (.inr (.inr (.inr h)))))⟩, hk35⟩
  · have HZ := Lib.hid (show commitP s S l = (Sto.chk l, s, S) by unfold commitP; rw [if_pos hz])
    have HE2 := Lib.hid (show Sto.enc l = ([], Sto.chk l) by unfold Sto.enc; rw [if_pos hz])
    rw [HE2.out] at HE
    have hq : (Sto.chk l != 0) = true := by simpa using hz
    generalize Sto.chk l = e at *
    clear hz
    go_enter Try.func26, Try.ntmps26
    go_wp2_with (go_at_call 12; refine Rets.use HE.out ?_; rintro v2 w2 ⟨hk2, u2, rfl, hO2⟩)
    go_ret
    rw [HZ.out]
    exact ⟨rfl, (HSL.out.kept hk2).mono (fun _ h => .inl h) (fun k h => h.elim (HZW.out k) (fun h => by omega)), hk2.mono (fun _ _ h => h.elim)⟩
theorem commit_c {W w0 w : World} {ok : Nat → Prop} {g x : Nat} {s : St} {S : StoS} (h : SL W w0 g x s S) (hk : Keeps (fun _ => False) w0 w) (few : s.opn.length ≤ 900000) (hnx : S.L.next ≤ s.now.length) (htx : S.L.texts.length ≤ 4096) (hn : S.n ≤ 900000) (hu : -100000000000000 ≤ S.u ∧ S.u ≤ 100000000000000)
    (l : List Chg) (hB : ChgB l) (hl : l.length ≤ 1000000) (v : Value) (hc : Chgs w ok v l) (hok : ∀ k, ok k → (k < W.heap.size ∨ w0.heap.size ≤ k) ∧ k < w.heap.size) : Calls Try.prog 26 #[.pointer (some ⟨x, 0, none⟩), v] w (Rets (ComPost W w0 w g x (commitP s S l))) :=
  Rets.use (commitz_c (h.z hk) few hnx htx hn hu l hB hl v hc (fun k h => ⟨fun e => by have := hok k h; omega, (hok k h).2⟩)) fun v w' hp => ⟨hp.1, hp.2.1.sl, hp.2.2⟩
end Go.Proofs.Ytbiohidelhfaiaa
end

section
namespace Go.Proofs.Ytbiohidelhfaiaa
open Go.RowKit Go.Canon Go.Mem
set_option linter.unusedVariables false
set_option linter.unusedSimpArgs false
theorem wrapU {x : Int} (h0 : 0 ≤ x) (h1 : x < 18446744073709551616) : IntKind.u64.wrap x = x := by
  simp [IntKind.wrap, IntKind.bits, IntKind.signed]; omega
theorem and127 {y : Int} (h : 0 ≤ y ∧ y < 256) : bits .and .u8 y 127 = ((y.toNat % 128 : Nat) : Int) := by
  have h2 : ∀ m : Fin 256, bits .and .u8 ((m.val : Nat) : Int) 127 = ((m.val % 128 : Nat) : Int) := by decide +kernel
  have := h2 ⟨y.toNat, by omega⟩
  simp only at this
  rw [show ((y.toNat : Nat) : Int) = y by omega] at this
  exact this
theorem acc_or {k x : Nat} (hk : k ≤ 9) (hx : x < 128 ^ k) {y : Int} (hy : 0 ≤ y ∧ y < 256) (h9 : k = 9 → y ≤ 1) : bits .or .u64 (x : Int) (IntKind.u64.wrap (IntKind.u64.wrap (bits .and .u8 y 127) * 2 ^ (7 * k))) = ((x + y.toNat % 128 * 128 ^ k : Nat) : Int) := by
  have hp : (128 : Nat) ^ k = 2 ^ (7 * k) := by rw [show (128 : Nat) = 2 ^ 7 from rfl, ← Nat.pow_mul]
  have hpi : (2 : Int) ^ (7 * k) = ((128 ^ k : Nat) : Int) := by rw [hp]; norm_cast
  have hm : y.toNat % 128 * 128 ^ k < 9223372036854775809 ∧ (k = 9 → y.toNat % 128 ≤ 1) := by
    have : k = 0 ∨ k = 1 ∨ k = 2 ∨ k = 3 ∨ k = 4 ∨ k = 5 ∨ k = 6 ∨ k = 7 ∨ k = 8 ∨ k = 9 := by omega
    rcases this with rfl | rfl | rfl | rfl | rfl | rfl | rfl | rfl | rfl | rfl
    all_goals (try have := h9 rfl); omega
  have hx2 : x < 18446744073709551616 := by
    have : (128 : Nat) ^ k ≤ 128 ^ 9 := Nat.pow_le_pow_right (by decide) hk
    have : (128 : Nat) ^ 9 = 9223372036854775808 := by decide
    omega
  have e1 : IntKind.u64.wrap ((y.toNat % 128 : Nat) : Int) = ((y.toNat % 128 : Nat) : Int) := wrapU (by omega) (by omega)
  rw [and127 hy, e1, hpi, ← Int.natCast_mul, wrapU (by omega) (by omega), bits_or_u64_nat _ _ hx2 (by omega)]
  congr 1
  rw [hp] at hx ⊢
  rw [Nat.or_comm, Nat.mul_comm, ← Nat.two_pow_add_eq_or_of_lt hx]
  omega
set_option maxHeartbeats 1600000 in
set_option maxRecDepth 100000 in
theorem rdvar_c {ok : Nat → Prop} {w : World} (v : Value) (l : List Int) (hr : Rd w ok v l.length (Disk.bytes8 l)) (hB : IsB l) (hl : l.length ≤ 1000000) : Calls Try.prog 43 #[v] w (Rets (Only (.tuple #[.int .u64 (Sto.rdF l).1, .int .i64 (Sto.rdF l).2.1, .int .i64 (Sto.rdF l).2.2]) w)) := by
  obtain ⟨A, c, rfl, _⟩ := hr.slice
  have HR := Lib.hid hr
  have HB := Lib.hid hB
  clear hr hB
  go_enter Try.func43, Try.ntmps43
  go_wp2
  go_loopw [5, 10] (fun xv iv wr => ∃ k x : Nat, xv = .int .u64 x ∧ iv = .int .i64 k ∧ k ≤ l.length ∧ k ≤ 9 ∧ x < 128 ^ k ∧ wr = w ∧ Hid (Sto.rdF l = Sto.rdGo (l.drop k) k x)) (fun _ iv _ => l.length - (intOf iv).toNat)
  case atStart => exact ⟨0, 0, rfl, rfl, Nat.zero_le _, by decide, by decide, rfl, rfl⟩
  case round =>
    obtain ⟨k, x, rfl, rfl, hk, hk9, hx, rfl, HF⟩ := hrel
    by_cases hlt : k < l.length
    · obtain ⟨b, o, c', e, _, hbW, hcell⟩ := HR.out.at (by intro e; have := congrArg List.length e; rw [Disk.bytes8_len, List.length_nil] at this; omega)
      cases e
      have cx : wr.cell? ⟨b, o + k, none⟩ = some (.int .u8 l[k]) := hcell k _ (by simp [Disk.bytes8, hlt])
      have hb := HB.out _ (List.getElem_mem hlt)
      have HF2 := Lib.hid (show Sto.rdF l = Sto.rdGo (l[k] :: l.drop (k + 1)) k x by rw [HF.out, List.drop_eq_getElem_cons hlt])
      clear hcell
      generalize l[k] = y at *
      by_cases hf : k = 9 ∧ 1 < y
      · obtain ⟨rfl, hy1⟩ := hf
        have HE := Lib.hid (show Sto.rdF l = (0, 0, 4) by rw [HF2.out, Sto.rdGo, if_pos ⟨rfl, hy1⟩])
        go_wp2
        go_ret3
        rw [HE.out]
        exact ⟨rfl, rfl⟩
      · have HA := Lib.hid (acc_or hk9 hx hb (fun h => by omega))
        by_cases hy : y < 128
        · by_cases hz : y = 0 ∧ 0 < k
          · obtain ⟨rfl, hk0⟩ := hz
            have HE := Lib.hid (show Sto.rdF l = (0, 0, 4) by rw [HF2.out, Sto.rdGo, if_neg hf, if_pos hy, if_pos ⟨rfl, hk0⟩])
            have hk0 : (0 : Int) < k := by omega
            by_cases h9 : k = 9
            · subst h9
              go_wp2
              go_ret3
              rw [HE.out]
              exact ⟨rfl, rfl⟩
            · have hq : (((k : Int)) == 9) = false := by rw [beq_eq_false_iff_ne]; omega
              go_wp2
              go_ret3
              rw [HE.out]
              exact ⟨rfl, rfl⟩
          · have HE := Lib.hid (show Sto.rdF l = (x + y.toNat * 128 ^ k, k + 1, 0) by rw [HF2.out, Sto.rdGo, if_neg hf, if_pos hy, if_neg hz])
            rw [show y.toNat % 128 = y.toNat by omega] at HA
            by_cases hy0 : y = 0
            · obtain rfl : k = 0 := by omega
              subst hy0
              have cx' : wr.cell? ⟨b, o, none⟩ = some (.int .u8 0) := cx
              go_wp2
              go_ret3
              rw [HE.out]
              exact ⟨by first | (rw [← HA.out]; rfl) | (simp [HA.out]), rfl⟩
            · have hq0 : (y == 0) = false := by rw [beq_eq_false_iff_ne]; exact hy0
              by_cases h9 : k = 9
              · subst h9
                have hy1 : y ≤ 1 := by omega
                go_wp2
                go_ret3
                rw [HE.out]
                exact ⟨by first | (rw [← HA.out]; rfl) | (simp [HA.out]), rfl⟩
              · have hq : (((k : Int)) == 9) = false := by rw [beq_eq_false_iff_ne]; omega
                go_wp2
                go_ret3
                rw [HE.out]
                exact ⟨by first | (rw [← HA.out]; rfl) | (simp [HA.out]), rfl⟩
        · have HE := Lib.hid (show Sto.rdF l = Sto.rdGo (l.drop (k + 1)) (k + 1) (x + (y.toNat - 128) * 128 ^ k) by rw [HF2.out, Sto.rdGo, if_neg hf, if_neg hy])
          have hn : k < 9 := by omega
          rw [show y.toNat % 128 = y.toNat - 128 by omega] at HA
          have hq : (((k : Int)) == 9) = false := by rw [beq_eq_false_iff_ne]; omega
          have HX := Lib.hid (show x + (y.toNat - 128) * 128 ^ k < 128 ^ (k + 1) by
            have : (128 : Nat) ^ (k + 1) = 128 * 128 ^ k := by rw [Nat.pow_succ, Nat.mul_comm]
            have h2 : (y.toNat - 128) * 128 ^ k ≤ 127 * 128 ^ k := Nat.mul_le_mul_right _ (by omega)
            omega)
          go_wp2
          go_roundw
          case rel => exact ⟨k + 1, x + (y.toNat - 128) * 128 ^ k, by rw [HA.out], by go_num, hlt, by omega, HX.out, by trivial, HE⟩
          case measure => simp [intOf]; omega
    · obtain rfl : k = l.length := by omega
      have HE := Lib.hid (show Sto.rdF l = (0, 0, 3) by rw [HF.out, List.drop_length]; rfl)
      go_wp2
      go_ret3
      rw [HE.out]
      exact ⟨rfl, rfl⟩
end Go.Proofs.Ytbiohidelhfaiaa
end

section
namespace Go.Proofs.Ytbiohidelhfaiaa
open Go.RowKit Go.Canon Go.Mem
set_option linter.unusedVariables false
set_option linter.unusedSimpArgs false
section
variable {P : Program} {ops : Array Oper} {op : Oper} {rest : List Oper} {a : Act} {w : World} {Q : Exit → Act → World → Prop}
/-- x[i:j] of a slice that is read. -/
theorem step_slice_mid {ok : Nat → Prop} (hgd : Region.wanted op (yielded ops a.tmps) = true) (ty : TypeId) (x l h : Operand) (ho : op.op = .slice ty x (some l) (some h) none) (ht : P.underlying ty = some (.slice (P.elem ty))) (hi : (P.info? (P.elem ty)).map (·.size) = some 1)
    (A : Option Addr) (n c i j : Nat) (kl kh : IntKind) (cs : List Value) (hx : a.eval x = .slice A n c) (hl : a.eval l = .int kl (i : Int)) (hh : a.eval h = .int kh (j : Int)) (hij : i ≤ j) (hj : j ≤ n) (hr : Rd w ok (.slice A n c) n cs) (hc : cs.length = n)
    (hk : ∀ v, Rd w ok v (j - i) ((cs.take j).drop i) → wpList P ops Q rest (a.put op.dst v) w) : wpList P ops Q (op :: rest) a w := by
  refine plain_ hgd fun K hK => ?_
  have hnc : n ≤ c := by obtain ⟨_, _, e, h, _⟩ := hr; cases e; exact h
  have hrun : (Instr.sliceAt ty (.slice A n c) (some (.int kl (i : Int))) (some (.int kh (j : Int))) none).run P w = .ok (sliced A i j c 1) w := by
    rw [run_sliceAt_slice w ty _ _ _ _ ht, run_slice_lh w ty A n c ht kl kh i j (by omega) (by omega) (by omega)]
    cases hq : P.info? (P.elem ty) with
    | none => simp [hq] at hi
    | some q =>
      have hs : q.size = 1 := by simpa [hq] using hi
      simp [sizeOf, typeInfo, hq, hs]
  unfold Oper.wp execOp
  simp only [ho, hx, hl, hh, Option.map_some, Option.map_none, Sem.run_bind, hrun, Result.andThen_ok, Sem.run_pure]
  have h1 := Rd.front hr j 1 hj (by omega)
  rw [Nat.mul_one] at h1
  exact hK _ _ (hk _ (Rd.tail h1 i hij (by rw [List.length_take]; omega)))
end
theorem info_elem : (Try.prog.info? (Try.prog.elem 23)).map (·.size) = some 1 := by kernel_rfl
theorem under_elem : Try.prog.underlying 23 = some (.slice (Try.prog.elem 23)) := by kernel_rfl
theorem drop8 (l : List Int) (k : Nat) : (Disk.bytes8 l).drop k = Disk.bytes8 (l.drop k) := by unfold Disk.bytes8; rw [List.map_drop]
theorem mid8 (l : List Int) (i j : Nat) : ((Disk.bytes8 l).take j).drop i = Disk.bytes8 ((l.drop i).take (j - i)) := by unfold Disk.bytes8; rw [← List.map_take, ← List.map_drop, List.drop_take]
end Go.Proofs.Ytbiohidelhfaiaa
end

section
namespace Go.Proofs.Ytbiohidelhfaiaa
open Go.RowKit Go.Canon Go.Mem
set_option linter.unusedVariables false
set_option linter.unusedSimpArgs false
theorem rd_le (b : List Int) (h : (Sto.rdF b).2.2 = 0) : 1 ≤ (Sto.rdF b).2.1 ∧ (Sto.rdF b).2.1 ≤ b.length := by
  have := Sto.rdGo_le b 0 0 h
  unfold Sto.rdF
  omega
theorem rdGo_err : ∀ (l : List Int) (i acc : Nat), (Sto.rdGo l i acc).2.2 = 0 ∨ (Sto.rdGo l i acc).2.2 = 3 ∨ (Sto.rdGo l i acc).2.2 = 4 := by
  intro l
  induction l with
  | nil => intro i acc; exact .inr (.inl rfl)
  | cons c r ih =>
    intro i acc
    rw [Sto.rdGo]
    split
    · exact .inr (.inr rfl)
    · split
      · split
        · exact .inr (.inr rfl)
        · exact .inl rfl
      · exact ih _ _
theorem rdGo_lt : ∀ (l : List Int) (i acc : Nat), IsB l → i ≤ 9 → acc < 128 ^ i → (Sto.rdGo l i acc).1 < 18446744073709551616 := by
  intro l
  induction l with
  | nil => intro i acc _ _ _; exact (by decide : (0 : Nat) < 18446744073709551616)
  | cons c r ih =>
    intro i acc hB hi ha
    have hc := hB c (List.mem_cons_self ..)
    rw [Sto.rdGo]
    split
    · exact (by decide : (0 : Nat) < 18446744073709551616)
    · rename_i h1
      split
      · rename_i h2
        split
        · exact (by decide : (0 : Nat) < 18446744073709551616)
        · show acc + c.toNat * 128 ^ i < 18446744073709551616
          have : i = 0 ∨ i = 1 ∨ i = 2 ∨ i = 3 ∨ i = 4 ∨ i = 5 ∨ i = 6 ∨ i = 7 ∨ i = 8 ∨ i = 9 := by omega
          have h9 : i = 9 → c ≤ 1 := fun h => by
            rcases Int.lt_or_le 1 c with h3 | h3
            · exact (h1 ⟨h, h3⟩).elim
            · exact h3
          rcases this with rfl | rfl | rfl | rfl | rfl | rfl | rfl | rfl | rfl | rfl
          all_goals (try have := h9 rfl); omega
      · rename_i h2
        have hi2 : i + 1 ≤ 9 := by
          rcases Nat.lt_or_ge i 9 with h | h
          · omega
          · exact (h1 ⟨by omega, by omega⟩).elim
        refine ih (i + 1) _ (fun y hy => hB y (List.mem_cons_of_mem _ hy)) hi2 ?_
        have h3 : (c.toNat - 128) * 128 ^ i ≤ 127 * 128 ^ i := Nat.mul_le_mul_right _ (by omega)
        have : (128 : Nat) ^ (i + 1) = 128 * 128 ^ i := by rw [Nat.pow_succ, Nat.mul_comm]
        omega
theorem rdF_lt (b : List Int) (hB : IsB b) : (Sto.rdF b).1 < 18446744073709551616 := rdGo_lt b 0 0 hB (by decide) (by decide)
/-- A piece and what is behind it: both are read where the whole is. -/
def PieceIs (w : World) (ok : Nat → Prop) (r : Option (List Int × List Int)) : Value → World → Prop := fun v w' => Keeps (fun _ => False) w w' ∧ match r with
  | none => v = .tuple #[.slice none 0 0, .slice none 0 0, .bool false]
  | some (k, r) => ∃ a c, v = .tuple #[a, c, .bool true] ∧ Rd w' ok a k.length (Disk.bytes8 k) ∧ Rd w' ok c r.length (Disk.bytes8 r)
set_option maxHeartbeats 1600000 in
set_option maxRecDepth 100000 in
theorem piece_c {ok : Nat → Prop} {w : World} (v : Value) (b : List Int) (hr : Rd w ok v b.length (Disk.bytes8 b)) (hB : IsB b) (hl : b.length ≤ 1000000) : Calls Try.prog 65 #[v] w (Rets (PieceIs w ok (Sto.piece b))) := by
  obtain ⟨A, c, rfl, _⟩ := hr.slice
  have HR := Lib.hid hr
  have HV := Lib.hid (rdvar_c _ b hr hB hl)
  have HP := Lib.hid (show Sto.piece b = if (Sto.rdF b).2.2 ≠ 0 ∨ b.length - (Sto.rdF b).2.1 < (Sto.rdF b).1 then none else some ((b.drop (Sto.rdF b).2.1).take (Sto.rdF b).1, b.drop ((Sto.rdF b).2.1 + (Sto.rdF b).1)) from rfl)
  have hle := rd_le b
  have hx := rdF_lt b hB
  clear hr hB
  generalize Sto.rdF b = q at *
  obtain ⟨x, n, e⟩ := q
  simp only at HP HV hle hx
  by_cases he : e = 0
  · subst he
    obtain ⟨h1, h2⟩ := hle rfl
    clear hle
    by_cases hs : b.length - n < x
    · have HE := Lib.hid (show Sto.piece b = none by rw [HP.out, if_pos (.inr hs)])
      have hs' : (b.length : Int) - n < x := by omega
      go_enter Try.func65, Try.ntmps65
      go_wp2_with (go_at_call 43; refine Rets.use HV.out ?_; rintro _ _ ⟨rfl, rfl⟩)
      go_ret3
      rw [HE.out]
      exact ⟨Keeps.refl _ _, rfl⟩
    · have HE := Lib.hid (show Sto.piece b = some ((b.drop n).take x, b.drop (n + x)) by rw [HP.out, if_neg (by rintro (h | h); exact h rfl; exact hs h)])
      have hs' : (x : Int) ≤ (b.length : Int) - n := by omega
      have hxl : (x : Int) ≤ 1000000 := by omega
      go_enter Try.func65, Try.ntmps65
      go_wp2_with (go_at_call 43; refine Rets.use HV.out ?_; rintro _ _ ⟨rfl, rfl⟩)
      have HRd := Lib.hid (HR.out.kept ((Keeps.refl (fun _ => False) w).drew) (fun _ _ h => h))
      have KD : Keeps (fun _ => False) w w.drew := (Keeps.refl _ w).drew
      refine Canon.row [0, 1, 2, 3, 4, 5, 6, 7, 8, 9] (by kernel_rfl) (by kernel_rfl) (by repeat (first | (with_reducible exact Safe.body) | (with_reducible apply Safe.then) | (with_reducible apply Safe.inBlock) | (dsimp +zetaDelta only))) ?_
      simp only [Canon.pick, Canon.wpPlan, List.getElem?_toArray, List.getElem?_cons_zero, List.getElem?_cons_succ]
      generalize w.drew = wd at *
      go_wp2_with (first
        | ((with_reducible refine at_ 33 rfl ?_); go_loud (refine step_slice_mid rfl _ _ _ _ rfl under_elem info_elem A b.length c n (n + x) .i64 .i64 _ rfl rfl (by go_num) (by omega) (by omega) HRd.out (Disk.bytes8_len b) ?_); intro v3 hr3)
        | ((with_reducible refine at_ 36 rfl ?_); go_loud (refine step_slice_from rfl _ _ _ rfl 5 under_elem info_elem A b.length c (n + x) .i64 _ rfl (by go_num) (by omega) HRd.out (Disk.bytes8_len b) ?_); intro v6 hr6))
      refine ⟨by rfl, trivial, ?_⟩
      go_wp2
      go_ret3
      rw [HE.out]
      refine ⟨KD, _, _, rfl, ?_, ?_⟩
      · rw [mid8] at hr3
        have e : ((b.drop n).take x).length = n + x - n := by rw [List.length_take, List.length_drop]; omega
        rw [e]
        rw [show n + x - n = x by omega] at hr3 ⊢
        exact hr3
      · rw [drop8] at hr6
        rw [List.length_drop]
        exact hr6
  · have HE := Lib.hid (show Sto.piece b = none by rw [HP.out, if_pos (.inl he)])
    have hq : (e != 0) = true := by simpa using he
    go_enter Try.func65, Try.ntmps65
    go_wp2_with (go_at_call 43; refine Rets.use HV.out ?_; rintro _ _ ⟨rfl, rfl⟩)
    go_ret3
    rw [HE.out]
    exact ⟨Keeps.refl _ _, rfl⟩
end Go.Proofs.Ytbiohidelhfaiaa
end

section
namespace Go.Proofs.Ytbiohidelhfaiaa
open Go.RowKit Go.Canon Go.Mem
open Go.Proofs.Ytbiohidelhfaiaa.Sto (Chg)
set_option linter.unusedVariables false
set_option linter.unusedSimpArgs false
theorem piece_sub {b k r : List Int} (hB : IsB b) (h : Sto.piece b = some (k, r)) : IsB k ∧ IsB r ∧ k.length ≤ b.length ∧ r.length ≤ b.length := by
  unfold Sto.piece at h
  split at h
  · cases h
  · simp only [Option.some.injEq, Prod.mk.injEq] at h
    obtain ⟨rfl, rfl⟩ := h
    exact ⟨fun x hx => hB x (List.drop_subset _ _ (List.mem_of_mem_take hx)), fun x hx => hB x (List.drop_subset _ _ hx), by rw [List.length_take, List.length_drop]; omega, by rw [List.length_drop]; omega⟩
theorem ret_cell_tmp2 {P : Program} {w : World} {fn : Func} {t s u : Tmp} {ty : TypeId} (h : fn.results = #[.cell t ty, .tmp s, .tmp u]) {tmps : Array Value} {b : Nat} (vs : List Value) {te : TypeId} {fr : Nat × Nat} (d : TypeDesc) (hx : tmps.getD t undef = .pointer (some ⟨b, 0, none⟩)) (hb : w.heap[b]? = some (.cells vs.toArray te fr))
    (hu : P.underlying ty = some d) (hd : d.isRow = true) (hi : (P.info? ty).map (·.size) = some vs.length) : (results fn tmps).run P w = .ok (.tuple #[.agg vs.toArray, tmps.getD s undef, tmps.getD u undef]) w := by
  have hx' : tmps[t]?.getD undef = .pointer (some ⟨b, 0, none⟩) := by rw [← Array.getD_eq_getD_getElem?]; exact hx
  simp [results, h, hx', asAddr, run_loadVar_mid w b 0 ty vs d (range_of hb) hu hd hi]
theorem info_str : (Try.prog.info? 9).map (·.size) = some 1 := by kernel_rfl
theorem info_bytes : (Try.prog.info? 23).map (·.size) = some 1 := by kernel_rfl
/-- A change that was read, and what is behind it. -/
def ChangeIs (w : World) (ok : Nat → Prop) (r : Option (Chg × List Int)) : Value → World → Prop := fun v w' => Keeps (fun _ => False) w w' ∧ match r with
  | none => ∃ c vV a, v = .tuple #[.agg (chgC c vV).toArray, a, .bool false] ∧ vV.oneCell' = true
  | some (c, r) => ∃ vV a, v = .tuple #[.agg (chgC c vV).toArray, a, .bool true] ∧ OwnRow w' (fun j => w.heap.size ≤ j) 5 1 vV c.val.length (Disk.bytes8 c.val) ∧ Rd w' ok a r.length (Disk.bytes8 r)
set_option maxHeartbeats 3200000 in
set_option maxRecDepth 100000 in
theorem change_c {ok : Nat → Prop} {w : World} (v : Value) (b : List Int) (hr : Rd w ok v b.length (Disk.bytes8 b)) (hB : IsB b) (hl : b.length ≤ 1000000) (hok : ∀ j, ok j → j < w.heap.size) : Calls Try.prog 44 #[v] w (Rets (ChangeIs w ok (Sto.change b))) := by
  obtain ⟨A, c, rfl, _⟩ := hr.slice
  have HR := Lib.hid hr
  have HB := Lib.hid hB
  clear hr hB
  have KA : Keeps (fun _ => False) w (w.alloc (.cells #[.string ⟨#[]⟩, .bool false, .slice none 0 0] 41)) := (Keeps.refl _ w).alloc _
  have hbA : (w.alloc (.cells #[.string ⟨#[]⟩, .bool false, .slice none 0 0] 41)).heap[w.heap.size]? = some (.cells chgZ.toArray 41 (0, 0)) := heap_alloc_new w _
  have hzA : (w.alloc (.cells #[.string ⟨#[]⟩, .bool false, .slice none 0 0] 41)).heap.size = w.heap.size + 1 := by simp
  have hzw : ∀ j, ok j → j < w.heap.size := hok
  cases b with
  | nil =>
    go_enter Try.func44, Try.ntmps44
    go_wp2
    ((try simp only [Exit.inBlock, Exit.then]); refine bodyPost_ret (ret_cell_tmp2 rfl chgZ _ rfl hbA Try.underlying41 rfl info_chg) rfl ?_)
    exact ⟨KA, ⟨[], false, []⟩, .slice none 0 0, _, rfl, rfl⟩
  | cons t r =>
    obtain ⟨ba, oa, c', e, _, hba, hcell⟩ := HR.out.at (by intro e; cases e)
    cases e
    have cx : (w.alloc (.cells #[.string ⟨#[]⟩, .bool false, .slice none 0 0] 41)).cell? ⟨ba, oa, none⟩ = some (.int .u8 t) := KA.cell (hcell 0 (.int .u8 t) rfl) (fun h => h)
    have ht := HB.out t (List.mem_cons_self ..)
    have hBr : IsB r := fun x hx => HB.out x (List.mem_cons_of_mem _ hx)
    have hlr : r.length ≤ 1000000 := by rw [List.length_cons] at hl; omega
    have hLt : Hid (Rd w ok (.slice (some ⟨ba, oa, none⟩) (t :: r).length c) (t :: r).length (Disk.bytes8 (t :: r))) := HR
    have hn1 : 1 ≤ (t :: r).length := by simp
    have hnr : (t :: r).length - 1 = r.length := by simp
    clear hcell
    have hq : (((t :: r).length : Int) == 0) = false := by rw [beq_eq_false_iff_ne]; omega
    generalize hN : (t :: r).length = N at *
    by_cases h1 : 1 < t
    · have HE := Lib.hid (show Sto.change (t :: r) = none by unfold Sto.change; simp only; rw [if_pos h1])
      go_enter Try.func44, Try.ntmps44
      go_wp2
      ((try simp only [Exit.inBlock, Exit.then]); refine bodyPost_ret (ret_cell_tmp2 rfl chgZ _ rfl hbA Try.underlying41 rfl info_chg) rfl ?_)
      rw [HE.out]
      exact ⟨KA, ⟨[], false, []⟩, .slice none 0 0, _, rfl, rfl⟩
    · have hbA' := Lib.hid hbA
      have hzA' := Lib.hid hzA
      have KA' := Lib.hid KA
      obtain ⟨w1, hw1⟩ : ∃ w1, w1 = w.alloc (.cells #[.string ⟨#[]⟩, .bool false, .slice none 0 0] 41) := ⟨_, rfl⟩
      rw [← hw1] at hbA' hzA' KA'
      have HW := Lib.hid hw1
      clear hw1 hbA hzA KA
      have hz1 : w1.heap.size = w.heap.size + 1 := hzA'.out
      have HP1 := Lib.hid (fun (w : World) (v : Value) (h : Rd w ok v r.length (Disk.bytes8 r)) => piece_c v r h hBr hlr)
      have ht01 : t = 0 ∨ t = 1 := by omega
      cases hp : Sto.piece r with
      | none =>
        rw [hp] at HP1
        have HE := Lib.hid (show Sto.change (t :: r) = none by unfold Sto.change; simp only; rw [if_neg h1, hp])
        clear hp
        rcases ht01 with rfl | rfl
        · go_enter Try.func44, Try.ntmps44
          go_wp2_with (first
            | ((with_reducible refine at_ 5 rfl ?_); go_must (rw [← HW.out]; refine step_alloc rfl _ rfl _ chgZ row_chg rfl ?_); intro w3 hb3 hk3 hs3; rw [hz1] at hb3 hs3 ⊢)
            | ((with_reducible refine at_store 41 (.tmp 5) (.tmp 24) rfl ?_); go_must (refine step_store rfl _ _ _ rfl (w.heap.size + 1) 0 [.string ⟨#[]⟩, .bool false, .slice none 0 0] _ _ rfl rfl hb3 (by simp [chgZ]) info_chg (by simp [Value.oneCell']) ?_); intro w4 hb4 hk4 hs4; rw [put_whole (by rfl)] at hb4)
            | ((with_reducible refine at_ 27 rfl ?_); go_loud (refine step_slice_from (ok := ok) rfl _ _ _ rfl 5 under_elem info_elem _ N c 1 .i64 _ rfl rfl hn1 (((hLt.out.kept KA'.out (fun _ _ h => h)).kept hk3 (fun _ _ h => h)).kept hk4 (fun j h e => by have := hzw j h; omega)) (by rw [← hN]; exact Disk.bytes8_len _) ?_); intro v5 hr5)
            | (go_at_call 65; refine Rets.use (HP1.out _ _ (by rw [hnr] at hr5; exact hr5)) ?_; rintro _ w6 ⟨hk6, rfl⟩)
            | ((with_reducible refine at_store 41 (.tmp 2) (.tmp 34) rfl ?_); go_must (refine step_store rfl _ _ _ rfl w.heap.size 0 chgZ _ _ rfl rfl (hk6.heap (hk4.heap (hk3.heap hbA'.out (fun h => h)) (fun e => by omega)) (fun h => h)) (by simp [chgZ]) info_chg (by simp [Value.oneCell', chgZ]) ?_); intro w7 hb7 hk7 hs7; rw [put_whole (by rfl)] at hb7))
          ((try simp only [Exit.inBlock, Exit.then]); refine bodyPost_ret (ret_cell_tmp2 rfl chgZ _ rfl hb7 Try.underlying41 rfl info_chg) rfl ?_)
          rw [HE.out]
          exact ⟨((((KA'.out.trans hk3 (fun _ _ h => h)).mono (S' := fun j => w.heap.size ≤ j) (fun _ _ h => h.elim)).trans hk4 (fun j _ h => by omega)).trans hk6 (fun _ _ h => h.elim)).trans hk7 (fun j _ h => by omega) |>.mono (fun j hj h => by omega), ⟨[], false, []⟩, .slice none 0 0, _, rfl, rfl⟩
        · go_enter Try.func44, Try.ntmps44
          go_wp2_with (first
            | ((with_reducible refine at_ 5 rfl ?_); go_must (rw [← HW.out]; refine step_alloc rfl _ rfl _ chgZ row_chg rfl ?_); intro w3 hb3 hk3 hs3; rw [hz1] at hb3 hs3 ⊢)
            | ((with_reducible refine at_store 41 (.tmp 5) (.tmp 24) rfl ?_); go_must (refine step_store rfl _ _ _ rfl (w.heap.size + 1) 0 [.string ⟨#[]⟩, .bool true, .slice none 0 0] _ _ rfl rfl hb3 (by simp [chgZ]) info_chg (by simp [Value.oneCell']) ?_); intro w4 hb4 hk4 hs4; rw [put_whole (by rfl)] at hb4)
            | ((with_reducible refine at_ 27 rfl ?_); go_loud (refine step_slice_from (ok := ok) rfl _ _ _ rfl 5 under_elem info_elem _ N c 1 .i64 _ rfl rfl hn1 (((hLt.out.kept KA'.out (fun _ _ h => h)).kept hk3 (fun _ _ h => h)).kept hk4 (fun j h e => by have := hzw j h; omega)) (by rw [← hN]; exact Disk.bytes8_len _) ?_); intro v5 hr5)
            | (go_at_call 65; refine Rets.use (HP1.out _ _ (by rw [hnr] at hr5; exact hr5)) ?_; rintro _ w6 ⟨hk6, rfl⟩)
            | ((with_reducible refine at_store 41 (.tmp 2) (.tmp 34) rfl ?_); go_must (refine step_store rfl _ _ _ rfl w.heap.size 0 chgZ _ _ rfl rfl (hk6.heap (hk4.heap (hk3.heap hbA'.out (fun h => h)) (fun e => by omega)) (fun h => h)) (by simp [chgZ]) info_chg (by simp [Value.oneCell', chgZ]) ?_); intro w7 hb7 hk7 hs7; rw [put_whole (by rfl)] at hb7))
          ((try simp only [Exit.inBlock, Exit.then]); refine bodyPost_ret (ret_cell_tmp2 rfl chgZ _ rfl hb7 Try.underlying41 rfl info_chg) rfl ?_)
          rw [HE.out]
          exact ⟨((((KA'.out.trans hk3 (fun _ _ h => h)).mono (S' := fun j => w.heap.size ≤ j) (fun _ _ h => h.elim)).trans hk4 (fun j _ h => by omega)).trans hk6 (fun _ _ h => h.elim)).trans hk7 (fun j _ h => by omega) |>.mono (fun j hj h => by omega), ⟨[], false, []⟩, .slice none 0 0, _, rfl, rfl⟩
      | some q =>
        obtain ⟨k, r2⟩ := q
        obtain ⟨hBk, hBr2, hkl, hrl⟩ := piece_sub hBr hp
        rw [hp] at HP1
        have HE0 := Lib.hid (show Sto.change (t :: r) = if t = 1 then some (⟨k, true, []⟩, r2) else match Sto.piece r2 with
          | none => none
          | some (v, r3) => some (⟨k, false, v⟩, r3) by unfold Sto.change; simp only; rw [if_neg h1, hp]; rfl)
        clear hp
        have HBk := Lib.hid hBk
        clear hBk
        obtain ⟨sk, hsk⟩ : ∃ s, s = str k := ⟨_, rfl⟩
        have HSk := Lib.hid hsk
        clear hsk
        rcases ht01 with rfl | rfl
        · have HE1 := Lib.hid (show Sto.change (0 :: r) = match Sto.piece r2 with
            | none => none
            | some (v, r3) => some (⟨k, false, v⟩, r3) by rw [HE0.out, if_neg (by decide)])
          have HP2 := Lib.hid (fun (w : World) (v : Value) (h : Rd w ok v r2.length (Disk.bytes8 r2)) => piece_c v r2 h hBr2 (by omega))
          cases hp2 : Sto.piece r2 with
          | none =>
            rw [hp2] at HP2
            have HE := Lib.hid (show Sto.change (0 :: r) = none by rw [HE1.out, hp2])
            clear hp2
            go_enter Try.func44, Try.ntmps44
            go_wp2_with (first
              | ((with_reducible refine at_ 5 rfl ?_); go_must (rw [← HW.out]; refine step_alloc rfl _ rfl _ chgZ row_chg rfl ?_); intro w3 hb3 hk3 hs3; rw [hz1] at hb3 hs3 ⊢)
              | ((with_reducible refine at_store 41 (.tmp 5) (.tmp 24) rfl ?_); go_must (refine step_store rfl _ _ _ rfl (w.heap.size + 1) 0 [.string ⟨#[]⟩, .bool false, .slice none 0 0] _ _ rfl rfl hb3 (by simp [chgZ]) info_chg (by simp [Value.oneCell']) ?_); intro w4 hb4 hk4 hs4; rw [put_whole (by rfl)] at hb4)
              | ((with_reducible refine at_ 27 rfl ?_); go_loud (refine step_slice_from (ok := ok) rfl _ _ _ rfl 5 under_elem info_elem _ N c 1 .i64 _ rfl rfl hn1 (((hLt.out.kept KA'.out (fun _ _ h => h)).kept hk3 (fun _ _ h => h)).kept hk4 (fun j h e => by have := hzw j h; omega)) (by rw [← hN]; exact Disk.bytes8_len _) ?_); intro v5 hr5)
              | (go_at_call 65; refine Rets.use (HP1.out _ _ (by rw [hnr] at hr5; exact hr5)) ?_; rintro _ w6 ⟨hk6, a6, c6, rfl, hra6, hrc6⟩; have hb6 := hk6.heap hb4 (fun h => h); have hB6 := hk6.heap (hk4.heap (hk3.heap hbA'.out (fun h => h)) (fun e => by omega)) (fun h => h); have hz6 := hk6.size)
              | ((with_reducible refine at_ 36 rfl ?_); go_must (refine step_bytes_str rfl _ _ _ rfl 5 Try.underlying23 Try.underlying5 Try.underlying9 _ k rfl hra6 HBk.out ?_); rw [← HSk.out])
              | ((with_reducible refine at_store 9 (.tmp 37) (.tmp 36) rfl ?_); go_must (refine step_store1 rfl _ _ _ rfl (w.heap.size + 1) 0 (.string sk) [.string ⟨#[]⟩, .bool false, .slice none 0 0] _ rfl rfl rfl hb6 (by simp) info_str ?_); intro w7 hb7 hk7 hs7; have d1 : w7.cell? ⟨w.heap.size + 1, 1, none⟩ = some (.bool false) := cell_of_row w7 _ 1 _ _ _ hb7; have hB7 := hk7.heap hB6 (fun e => by omega); have HR7 := Lib.hid (hrc6.kept hk7 (fun j h e => by have := hzw j h; omega)); have HK7 := Lib.hid (((((KA'.out.trans hk3 (fun _ _ h => h)).mono (S' := fun j => w.heap.size ≤ j) (fun _ _ h => h.elim)).trans hk4 (fun j _ h => by omega)).trans hk6 (fun _ _ h => h.elim)).trans hk7 (fun j _ h => by omega)); have hb7 : w7.heap[w.heap.size + 1]? = some (.cells [Value.string sk, .bool false, .slice none 0 0].toArray 41 (0, 0)) := hb7; have hz7 : w.heap.size + 1 < w7.heap.size := by omega)
              | (go_at_call 65; refine Rets.use (HP2.out _ _ HR7.out) ?_; rintro _ w8 ⟨hk8, rfl⟩; have HK8 := Lib.hid (HK7.out.trans hk8 (fun _ _ h => h.elim)); have hb8 := hk8.heap hb7 (fun h => h); have hB8 := hk8.heap hB7 (fun h => h); have hz8 := hk8.size)
              | (go_at_call 64; refine Rets.use (clone_c _ [] (Rd.nil _ (fun _ => True)) (by decide)) ?_; rintro v10 w10 hO10; have HK10 := Lib.hid (HK8.out.trans hO10.2 (fun _ _ h => h.elim)); have hb10 := hO10.2.heap hb8 (fun h => h); have hB10 := hO10.2.heap hB8 (fun h => h); have hz10 := hO10.2.size)
              | ((with_reducible refine at_store 23 (.tmp 50) (.tmp 49) rfl ?_); go_must (refine step_store1 rfl _ _ _ rfl (w.heap.size + 1) 2 v10 _ _ rfl rfl (Rd.one hO10.1.rd) hb10 (by simp) info_bytes ?_); intro w11 hb11 hk11 hs11; have HK11 := Lib.hid (HK10.out.trans (hk11.mono (S' := fun j => w.heap.size ≤ j) (fun j _ h => by omega)) (fun _ _ h => h)); have hB11 := hk11.heap hB10 (fun e => by omega))
              | ((with_reducible refine at_ 51 rfl ?_); go_must (refine step_load rfl _ _ rfl (w.heap.size + 1) 0 [.string sk, .bool false, v10] _ _ _ _ rfl hb11 rfl Try.underlying41 rfl info_chg ?_))
              | ((with_reducible refine at_store 41 (.tmp 2) (.tmp 51) rfl ?_); go_must (refine step_store rfl _ _ _ rfl w.heap.size 0 [.string sk, .bool false, v10] _ _ rfl rfl hB11 (by simp [chgZ]) info_chg (by have := (Rd.one hO10.1.rd); simp [Value.oneCell', this]; exact this) ?_); intro w12 hb12 hk12 hs12; rw [put_whole (by rfl)] at hb12; have HK12 := Lib.hid (HK11.out.trans (hk12.mono (S' := fun j => w.heap.size ≤ j) (fun j _ h => by omega)) (fun _ _ h => h))))
            ((try simp only [Exit.inBlock, Exit.then]); refine bodyPost_ret (ret_cell_tmp2 rfl [.string sk, .bool false, v10] _ rfl hb12 Try.underlying41 rfl info_chg) rfl ?_)
            rw [HE.out]
            exact ⟨HK12.out.mono (fun j hj h => by omega), ⟨k, false, []⟩, v10, _, by rw [HSk.out]; rfl, (Rd.one hO10.1.rd)⟩
          | some q =>
            obtain ⟨val, r3⟩ := q
            obtain ⟨_, _, hvl, _⟩ := piece_sub hBr2 hp2
            rw [hp2] at HP2
            have HE := Lib.hid (show Sto.change (0 :: r) = some (⟨k, false, val⟩, r3) by rw [HE1.out, hp2])
            clear hp2
            go_enter Try.func44, Try.ntmps44
            go_wp2_with (first
              | ((with_reducible refine at_ 5 rfl ?_); go_must (rw [← HW.out]; refine step_alloc rfl _ rfl _ chgZ row_chg rfl ?_); intro w3 hb3 hk3 hs3; rw [hz1] at hb3 hs3 ⊢)
              | ((with_reducible refine at_store 41 (.tmp 5) (.tmp 24) rfl ?_); go_must (refine step_store rfl _ _ _ rfl (w.heap.size + 1) 0 [.string ⟨#[]⟩, .bool false, .slice none 0 0] _ _ rfl rfl hb3 (by simp [chgZ]) info_chg (by simp [Value.oneCell']) ?_); intro w4 hb4 hk4 hs4; rw [put_whole (by rfl)] at hb4)
              | ((with_reducible refine at_ 27 rfl ?_); go_loud (refine step_slice_from (ok := ok) rfl _ _ _ rfl 5 under_elem info_elem _ N c 1 .i64 _ rfl rfl hn1 (((hLt.out.kept KA'.out (fun _ _ h => h)).kept hk3 (fun _ _ h => h)).kept hk4 (fun j h e => by have := hzw j h; omega)) (by rw [← hN]; exact Disk.bytes8_len _) ?_); intro v5 hr5)
              | (go_at_call 65; refine Rets.use (HP1.out _ _ (by rw [hnr] at hr5; exact hr5)) ?_; rintro _ w6 ⟨hk6, a6, c6, rfl, hra6, hrc6⟩; have hb6 := hk6.heap hb4 (fun h => h); have hB6 := hk6.heap (hk4.heap (hk3.heap hbA'.out (fun h => h)) (fun e => by omega)) (fun h => h); have hz6 := hk6.size)
              | ((with_reducible refine at_ 36 rfl ?_); go_must (refine step_bytes_str rfl _ _ _ rfl 5 Try.underlying23 Try.underlying5 Try.underlying9 _ k rfl hra6 HBk.out ?_); rw [← HSk.out])
              | ((with_reducible refine at_store 9 (.tmp 37) (.tmp 36) rfl ?_); go_must (refine step_store1 rfl _ _ _ rfl (w.heap.size + 1) 0 (.string sk) [.string ⟨#[]⟩, .bool false, .slice none 0 0] _ rfl rfl rfl hb6 (by simp) info_str ?_); intro w7 hb7 hk7 hs7; have d1 : w7.cell? ⟨w.heap.size + 1, 1, none⟩ = some (.bool false) := cell_of_row w7 _ 1 _ _ _ hb7; have hB7 := hk7.heap hB6 (fun e => by omega); have HR7 := Lib.hid (hrc6.kept hk7 (fun j h e => by have := hzw j h; omega)); have HK7 := Lib.hid (((((KA'.out.trans hk3 (fun _ _ h => h)).mono (S' := fun j => w.heap.size ≤ j) (fun _ _ h => h.elim)).trans hk4 (fun j _ h => by omega)).trans hk6 (fun _ _ h => h.elim)).trans hk7 (fun j _ h => by omega)); have hb7 : w7.heap[w.heap.size + 1]? = some (.cells [Value.string sk, .bool false, .slice none 0 0].toArray 41 (0, 0)) := hb7; have hz7 : w.heap.size + 1 < w7.heap.size := by omega)
              | (go_at_call 65; refine Rets.use (HP2.out _ _ HR7.out) ?_; rintro _ w8 ⟨hk8, a8, c8, rfl, hra8, hrc8⟩; have HK8 := Lib.hid (HK7.out.trans hk8 (fun _ _ h => h.elim)); have hb8 := hk8.heap hb7 (fun h => h); have hB8 := hk8.heap hB7 (fun h => h); have hz8 := hk8.size)
              | (go_at_call 64; refine Rets.use (clone_c _ val hra8 (by omega)) ?_; rintro v10 w10 hO10; have HK10 := Lib.hid (HK8.out.trans hO10.2 (fun _ _ h => h.elim)); have hb10 := hO10.2.heap hb8 (fun h => h); have hB10 := hO10.2.heap hB8 (fun h => h); have hz10 := hO10.2.size)
              | ((with_reducible refine at_store 23 (.tmp 50) (.tmp 49) rfl ?_); go_must (refine step_store1 rfl _ _ _ rfl (w.heap.size + 1) 2 v10 _ _ rfl rfl (Rd.one hO10.1.rd) hb10 (by simp) info_bytes ?_); intro w11 hb11 hk11 hs11; have HK11 := Lib.hid (HK10.out.trans (hk11.mono (S' := fun j => w.heap.size ≤ j) (fun j _ h => by omega)) (fun _ _ h => h)); have hB11 := hk11.heap hB10 (fun e => by omega))
              | ((with_reducible refine at_ 51 rfl ?_); go_must (refine step_load rfl _ _ rfl (w.heap.size + 1) 0 [.string sk, .bool false, v10] _ _ _ _ rfl hb11 rfl Try.underlying41 rfl info_chg ?_))
              | ((with_reducible refine at_store 41 (.tmp 2) (.tmp 51) rfl ?_); go_must (refine step_store rfl _ _ _ rfl w.heap.size 0 [.string sk, .bool false, v10] _ _ rfl rfl hB11 (by simp [chgZ]) info_chg (by have := (Rd.one hO10.1.rd); simp [Value.oneCell', this]; exact this) ?_); intro w12 hb12 hk12 hs12; rw [put_whole (by rfl)] at hb12; have HK12 := Lib.hid (HK11.out.trans (hk12.mono (S' := fun j => w.heap.size ≤ j) (fun j _ h => by omega)) (fun _ _ h => h))))
            ((try simp only [Exit.inBlock, Exit.then]); refine bodyPost_ret (ret_cell_tmp2 rfl [.string sk, .bool false, v10] _ rfl hb12 Try.underlying41 rfl info_chg) rfl ?_)
            rw [HE.out]
            refine ⟨HK12.out.mono (fun j hj h => by omega), v10, _, by rw [HSk.out]; rfl, ?_, ?_⟩
            · exact ((hO10.1.kept hk11 (fun j h e => by omega)).kept hk12 (fun j h e => by omega)).mono (fun j _ h => by omega)
            · exact ((hrc8.kept hO10.2 (fun _ _ h => h)).kept hk11 (fun j h e => by have := hzw j h; omega)).kept hk12 (fun j h e => by have := hzw j h; omega)
        · have HE := Lib.hid (show Sto.change (1 :: r) = some (⟨k, true, []⟩, r2) by rw [HE0.out, if_pos rfl])
          go_enter Try.func44, Try.ntmps44
          go_wp2_with (first
            | ((with_reducible refine at_ 5 rfl ?_); go_must (rw [← HW.out]; refine step_alloc rfl _ rfl _ chgZ row_chg rfl ?_); intro w3 hb3 hk3 hs3; rw [hz1] at hb3 hs3 ⊢)
            | ((with_reducible refine at_store 41 (.tmp 5) (.tmp 24) rfl ?_); go_must (refine step_store rfl _ _ _ rfl (w.heap.size + 1) 0 [.string ⟨#[]⟩, .bool true, .slice none 0 0] _ _ rfl rfl hb3 (by simp [chgZ]) info_chg (by simp [Value.oneCell']) ?_); intro w4 hb4 hk4 hs4; rw [put_whole (by rfl)] at hb4)
            | ((with_reducible refine at_ 27 rfl ?_); go_loud (refine step_slice_from (ok := ok) rfl _ _ _ rfl 5 under_elem info_elem _ N c 1 .i64 _ rfl rfl hn1 (((hLt.out.kept KA'.out (fun _ _ h => h)).kept hk3 (fun _ _ h => h)).kept hk4 (fun j h e => by have := hzw j h; omega)) (by rw [← hN]; exact Disk.bytes8_len _) ?_); intro v5 hr5)
            | (go_at_call 65; refine Rets.use (HP1.out _ _ (by rw [hnr] at hr5; exact hr5)) ?_; rintro _ w6 ⟨hk6, a6, c6, rfl, hra6, hrc6⟩; have hb6 := hk6.heap hb4 (fun h => h); have hB6 := hk6.heap (hk4.heap (hk3.heap hbA'.out (fun h => h)) (fun e => by omega)) (fun h => h); have hz6 := hk6.size)
            | ((with_reducible refine at_ 36 rfl ?_); go_must (refine step_bytes_str rfl _ _ _ rfl 5 Try.underlying23 Try.underlying5 Try.underlying9 _ k rfl hra6 HBk.out ?_); rw [← HSk.out])
            | ((with_reducible refine at_store 9 (.tmp 37) (.tmp 36) rfl ?_); go_must (refine step_store1 rfl _ _ _ rfl (w.heap.size + 1) 0 (.string sk) [.string ⟨#[]⟩, .bool true, .slice none 0 0] _ rfl rfl rfl hb6 (by simp) info_str ?_); intro w7 hb7 hk7 hs7; have d1 : w7.cell? ⟨w.heap.size + 1, 1, none⟩ = some (.bool true) := cell_of_row w7 _ 1 _ _ _ hb7; have hB7 := hk7.heap hB6 (fun e => by omega); have HR7 := Lib.hid (hrc6.kept hk7 (fun j h e => by have := hzw j h; omega)); have HK7 := Lib.hid (((((KA'.out.trans hk3 (fun _ _ h => h)).mono (S' := fun j => w.heap.size ≤ j) (fun _ _ h => h.elim)).trans hk4 (fun j _ h => by omega)).trans hk6 (fun _ _ h => h.elim)).trans hk7 (fun j _ h => by omega)); have hb7 : w7.heap[w.heap.size + 1]? = some (.cells [Value.string sk, .bool true, .slice none 0 0].toArray 41 (0, 0)) := hb7; have hz7 : w.heap.size + 1 < w7.heap.size := by omega)
            | ((with_reducible refine at_ 40 rfl ?_); go_must (refine step_load rfl _ _ rfl (w.heap.size + 1) 0 [.string sk, .bool true, .slice none 0 0] _ _ _ _ rfl hb7 rfl Try.underlying41 rfl info_chg ?_))
            | ((with_reducible refine at_store 41 (.tmp 2) (.tmp 40) rfl ?_); go_must (refine step_store rfl _ _ _ rfl w.heap.size 0 [.string sk, .bool true, .slice none 0 0] _ _ rfl rfl hB7 (by simp [chgZ]) info_chg (by simp [Value.oneCell']) ?_); intro w8 hb8 hk8 hs8; rw [put_whole (by rfl)] at hb8))
          ((try simp only [Exit.inBlock, Exit.then]); refine bodyPost_ret (ret_cell_tmp2 rfl [.string sk, .bool true, .slice none 0 0] _ rfl hb8 Try.underlying41 rfl info_chg) rfl ?_)
          rw [HE.out]
          refine ⟨HK7.out.trans (hk8.mono (S' := fun j => w.heap.size ≤ j) (fun j _ h => by omega)) (fun _ _ h => h) |>.mono (fun j hj h => by omega), _, _, by rw [HSk.out]; rfl, OwnRow.nil _ _ _ _, ?_⟩
          exact HR7.out.kept hk8 (fun j h e => by have := hzw j h; omega)
end Go.Proofs.Ytbiohidelhfaiaa
end
