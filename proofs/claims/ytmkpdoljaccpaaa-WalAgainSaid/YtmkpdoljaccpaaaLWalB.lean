/-
  WalAgain: the walk.
-/
import Derived.Test.YtmkpdoljaccpaaaLWalA
namespace Go.Proofs.Ytmkpdoljaccpaaa
open Go.RowKit Go.Canon Go.Mem Go.Args
open Go.Disk (St)
set_option linter.unusedVariables false
set_option linter.unusedSimpArgs false
set_option maxHeartbeats 6400000 in
set_option maxRecDepth 100000 in
theorem walAgain_in (W : World) (sn : Int) (v : Value) (l : List Do10) (hD : Dos10 W v l) : Calls Try.prog 11 #[.int .i64 sn, v] W (Rets (Yes W)) := by
  obtain ⟨N, hN⟩ : ∃ N : Nat, least sn 1 300 = N := ⟨(least sn 1 300).toNat, by unfold least; split <;> (try split) <;> omega⟩
  have hN1 : 1 ≤ N ∧ N ≤ 300 := by unfold least at hN; split at hN <;> (try split at hN) <;> omega
  have HLe := Lib.hid (show Calls Try.prog 22 #[.int .i64 sn, .int .i64 1, .int .i64 300] W (Rets (Only (.int .i64 N) W)) by rw [← hN]; exact least_c sn 1 300 W)
  have HD := Lib.hid hD
  have HA0 := Lib.hid (again_start N (by omega))
  have HNew := Lib.hid (dNew_c N (by omega) (by omega) W)
  have HB := Lib.hid (flat_fresh N)
  have HF0 := Lib.hid (show (fresh N).opn.length ≤ 900000 by simp [fresh])
  have hNm := hN1.2
  clear hD hN hN1
  go_enter Try.func11, Try.ntmps11
  go_wp2_with (first
    | (go_at_call 35; go_loud (refine Rets.use (few10_c (HD.out.kept hw2.1)) ?_); rintro v3 w3 ⟨hk3, m0, A0, c0, ev, rfl, hm0, hm40⟩)
    | (go_at_call 34; go_loud (refine Rets.use (wopen_c hd1 HF0.out HB.out) ?_); intro v2 w2 hp2; obtain ⟨x, rfl, hw2⟩ := WL.start hk1 hd1 hp2)
    | (go_at_call 30; go_loud (refine Rets.use HNew.out ?_); rintro v1 w1 ⟨hk1, g, rfl, hd1⟩)
    | (go_at_call 22; go_loud (refine Rets.use HLe.out ?_); rintro _ _ ⟨rfl, rfl⟩))
  have hl : Dos10 W (.slice A0 m0 c0) (l.take m0) := by have h := HD.out; rw [ev] at h; exact h.front m0 hm0
  have hml : (l.take m0).length = m0 := by rw [List.length_take]; omega
  obtain ⟨B, c, e3, hc1, hc2, _, hin⟩ := id hl
  obtain ⟨rfl, _, rfl⟩ := Value.slice.inj e3
  have HIn := Lib.hid hin
  have hcc : m0 ≤ c0 := by omega
  have hml2 := hml.symm
  generalize l.take m0 = m at *
  subst hml2
  have HW := Lib.hid (hw2.kept hk3)
  clear hl hin hw2 hk3 hd1 hk1 hp2 HNew HD HB HF0 e3 hc1 hc2 hml ev hm0
  go_loopw [9] (fun iv wr => ∃ (k : Nat) (s : St) (L : LogS), k ≤ m.length ∧ iv = .int .i64 k ∧ WL W wr g x s L ∧ Again s L N) (fun iv _ => m.length - (intOf iv).toNat)
  case atStart => exact ⟨0, _, _, Nat.zero_le _, rfl, HW.out, HA0.out⟩
  case round =>
    obtain ⟨k, s, L, hk, rfl, hW, hA⟩ := hrel
    have HWr := Lib.hid hW
    have HAg := Lib.hid hA
    clear HW HA0 hW hA
    by_cases hlt : k < m.length
    · obtain ⟨b, o, e, hb, vB, vK, c0', c1, c2, c3, c4, rB, _, hIB, _⟩ := HIn.out k _ (List.getElem?_eq_getElem hlt)
      cases e
      generalize m[k] = d at *
      have HCC := Lib.hid (show ∀ w', Keeps (fun _ => False) W w' → ∀ j u, [Value.int .i64 d.kind, .int .i64 d.n, .int .i64 d.long, vB, vK][j]? = some u → w'.cell? ⟨b, o + k * 5 + j, none⟩ = some u by
        intro w' hk' j u hj
        match j, hj with
        | 0, hj => cases hj; exact hk'.cell c0' (fun h => h)
        | 1, hj => cases hj; exact hk'.cell c1 (fun h => h)
        | 2, hj => cases hj; exact hk'.cell c2 (fun h => h)
        | 3, hj => cases hj; exact hk'.cell c3 (fun h => h)
        | 4, hj => cases hj; exact hk'.cell c4 (fun h => h))
      have HTx := Lib.hid (fun w' (hk' : Keeps (fun _ => False) W w') => text_c (w := w') d vB vK (rB.kept hk' (fun _ _ h => h)))
      have HT := Lib.hid (HAg.out.append (textF_byte hIB))
      have htl := textF_len d
      generalize textF d = t at *
      have HAp := Lib.hid (fun w' (hk' : Keeps (fun _ => False) wr w') vb (hb' : Rd w' (fun j => wr.heap.size ≤ j) vb t.length (Disk.bytes8 t)) => append_w (w := w') HWr.out hk' HAg.out.inv HAg.out.opn vb t hb' (fun _ h => h) (by omega))
      have hnx := HAg.out.inv.nexts
      have hmo := HAg.out.inv.most
      have HRm := Lib.hid (fun w' (hk' : Keeps (fun _ => False) wr w') => (show Calls Try.prog 42 #[.pointer (some ⟨x, 0, none⟩)] w' (Rets (Still (.int .i64 (roomP N L.next)) w')) by have h := wl_room (HWr.out.kept hk') HAg.out.inv; rw [HAg.out.len] at h; exact h))
      have HNx := Lib.hid (fun w' (hk' : Keeps (fun _ => False) wr w') => wl_next (HWr.out.kept hk'))
      have HTs := Lib.hid (fun w' (hk' : Keeps (fun _ => False) wr w') => wl_texts (HWr.out.kept hk') HAg.out.inv)
      have HWW := Lib.hid HWr.out.1
      have hrr : -1 ≤ roomP N L.next ∧ roomP N L.next ≤ 16384 := by unfold roomP; split <;> (try split) <;> omega
      clear c0' c1 c2 c3 c4 rB hIB
      generalize appendP s L t = q at *
      generalize hr0 : roomP N L.next = r at *
      have HR0 := Lib.hid hr0
      clear hr0
      rcases HT.out with ⟨q1, q2, q3, q4⟩ | ⟨q1, q2, q3⟩
      · have HQ1 := Lib.hid q1
        have HQ3 := Lib.hid q3
        clear HT q1 q3
        have HRm2 := Lib.hid (fun w0 w' (h0 : WL W w0 g x q.2.1 q.2.2) (hk' : Keeps (fun _ => False) w0 w') => (show Calls Try.prog 42 #[.pointer (some ⟨x, 0, none⟩)] w' (Rets (Still (.int .i64 (roomP N q.2.2.next)) w')) by have h := wl_room (h0.kept hk') HQ3.out.inv; rw [HQ3.out.len] at h; exact h))
        generalize roomP N q.2.2.next = r2 at *
        go_wp2_with (first
          | (go_at_call 42; (have hz := hW8); clear hz; go_loud (refine Rets.use (HRm2.out _ _ hW8 hk9) ?_); rintro _ w10 ⟨rfl, hk10⟩)
          | (go_at_call 38; (have hz := hW8); clear hz; go_loud (refine Rets.use (HTx.out _ hW8.1) ?_); rintro v9 w9 ⟨hO9, hk9⟩; obtain ⟨A9, c9, rfl, _⟩ := hO9.slice)
          | ((with_reducible refine at_ 55 rfl ?_); go_must (refine step_load_cells rfl 72 _ rfl b (o + k * 5) [.int .i64 d.kind, .int .i64 d.n, .int .i64 d.long, vB, vK] _ rfl (HCC.out _ hW8.1) Try.underlying72 rfl info_do10 ?_))
          | (go_at_call 37; (have hz := hO7); clear hz; go_loud (refine Rets.use (HAp.out _ ((hk5.trans hk6 (fun _ _ h => h)).trans hk7 (fun _ _ h => h)) _ (hO7.rd.mono (fun j h => by have := hk5.size; have := hk6.size; omega))) ?_); rintro v8 w8 ⟨rfl, hW8⟩; rw [HQ1.out])
          | (go_at_call 37; (have hz := hO7); clear hz; go_loud (refine Rets.use (HAp.out _ ((hk5.trans hk6 (fun _ _ h => h)).trans hk7 (fun _ _ h => h)) _ (hO7.rd.mono (fun j h => by have := hk5.size; have := hk6.size; omega))) ?_); rintro v8 w8 ⟨rfl, hW8⟩)
          | (go_at_call 38; (have hz := hk6); clear hz; go_loud (refine Rets.use (HTx.out _ ((HWW.out.trans hk5 (fun _ _ h => h)).trans hk6 (fun _ _ h => h))) ?_); rintro v7 w7 ⟨hO7, hk7⟩)
          | ((with_reducible refine at_ 47 rfl ?_); go_must (refine step_load_cells rfl 72 _ rfl b (o + k * 5) [.int .i64 d.kind, .int .i64 d.n, .int .i64 d.long, vB, vK] _ rfl (HCC.out _ ((HWW.out.trans hk5 (fun _ _ h => h)).trans hk6 (fun _ _ h => h))) Try.underlying72 rfl info_do10 ?_))
          | (go_at_call 41; (have hz := hk5); clear hz; go_loud (refine Rets.use (HTs.out _ hk5) ?_); rintro v6 w6 ⟨hk6, hr6⟩; obtain ⟨vs6, ho6, _⟩ := hr6; obtain ⟨A6, c6, rfl, _⟩ := ho6.slice)
          | (go_at_call 36; (have hz := hk5); clear hz; go_loud (refine Rets.use (HNx.out _ hk5) ?_); rintro _ _ ⟨rfl, rfl⟩)
          | (go_at_call 42; go_loud (refine Rets.use (HRm.out _ (Keeps.refl _ _)) ?_); rintro _ w5 ⟨rfl, hk5⟩))
        go_roundw
        case rel => exact ⟨k + 1, _, _, hlt, by go_num, (hW8.kept hk9).kept hk10, HQ3.out⟩
        case measure => simp [intOf]; omega
      · obtain ⟨e, q5⟩ := q
        simp only at q1 q3 HAp
        subst q3
        clear HT
        have HRm3 := Lib.hid (fun w0 w' (h0 : WL W w0 g x s L) (hk' : Keeps (fun _ => False) w0 w') => (show Calls Try.prog 42 #[.pointer (some ⟨x, 0, none⟩)] w' (Rets (Still (.int .i64 r) w')) by rw [← HR0.out]; have h := wl_room (h0.kept hk') HAg.out.inv; rw [HAg.out.len] at h; exact h))
        have HTs3 := Lib.hid (fun w0 w' (h0 : WL W w0 g x s L) (hk' : Keeps (fun _ => False) w0 w') => wl_texts (h0.kept hk') HAg.out.inv)
        have HNx3 := Lib.hid (fun w0 w' (h0 : WL W w0 g x s L) (hk' : Keeps (fun _ => False) w0 w') => wl_next (h0.kept hk'))
        rcases q1 with rfl | rfl
        · go_wp2_with (first
            | (go_at_call 41; (have hz := hk10); clear hz; go_loud (refine Rets.use (HTs3.out _ _ hW8 (hk9.trans hk10 (fun _ _ h => h))) ?_); rintro v11 w11 ⟨hk11, hr11⟩; obtain ⟨vs11, ho11, _⟩ := hr11; obtain ⟨A11, c11, rfl, _⟩ := ho11.slice)
            | (go_at_call 36; (have hz := hk10); clear hz; go_loud (refine Rets.use (HNx3.out _ _ hW8 (hk9.trans hk10 (fun _ _ h => h))) ?_); rintro _ _ ⟨rfl, rfl⟩)
            | (go_at_call 42; (have hz := hW8); clear hz; go_loud (refine Rets.use (HRm3.out _ _ hW8 hk9) ?_); rintro _ w10 ⟨rfl, hk10⟩)
            | (go_at_call 38; (have hz := hW8); clear hz; go_loud (refine Rets.use (HTx.out _ hW8.1) ?_); rintro v9 w9 ⟨hO9, hk9⟩; obtain ⟨A9, c9, rfl, _⟩ := hO9.slice)
            | ((with_reducible refine at_ 55 rfl ?_); go_must (refine step_load_cells rfl 72 _ rfl b (o + k * 5) [.int .i64 d.kind, .int .i64 d.n, .int .i64 d.long, vB, vK] _ rfl (HCC.out _ hW8.1) Try.underlying72 rfl info_do10 ?_))
            | (go_at_call 37; (have hz := hO7); clear hz; go_loud (refine Rets.use (HAp.out _ ((hk5.trans hk6 (fun _ _ h => h)).trans hk7 (fun _ _ h => h)) _ (hO7.rd.mono (fun j h => by have := hk5.size; have := hk6.size; omega))) ?_); rintro v8 w8 ⟨rfl, hW8⟩)
            | (go_at_call 38; (have hz := hk6); clear hz; go_loud (refine Rets.use (HTx.out _ ((HWW.out.trans hk5 (fun _ _ h => h)).trans hk6 (fun _ _ h => h))) ?_); rintro v7 w7 ⟨hO7, hk7⟩)
            | ((with_reducible refine at_ 47 rfl ?_); go_must (refine step_load_cells rfl 72 _ rfl b (o + k * 5) [.int .i64 d.kind, .int .i64 d.n, .int .i64 d.long, vB, vK] _ rfl (HCC.out _ ((HWW.out.trans hk5 (fun _ _ h => h)).trans hk6 (fun _ _ h => h))) Try.underlying72 rfl info_do10 ?_))
            | (go_at_call 41; (have hz := hk5); clear hz; go_loud (refine Rets.use (HTs.out _ hk5) ?_); rintro v6 w6 ⟨hk6, hr6⟩; obtain ⟨vs6, ho6, _⟩ := hr6; obtain ⟨A6, c6, rfl, _⟩ := ho6.slice)
            | (go_at_call 36; (have hz := hk5); clear hz; go_loud (refine Rets.use (HNx.out _ hk5) ?_); rintro _ _ ⟨rfl, rfl⟩)
            | (go_at_call 42; go_loud (refine Rets.use (HRm.out _ (Keeps.refl _ _)) ?_); rintro _ w5 ⟨rfl, hk5⟩))
          go_roundw
          case rel => exact ⟨k + 1, s, L, hlt, by go_num, ((hW8.kept hk9).kept hk10).kept hk11, HAg.out⟩
          case measure => simp [intOf]; omega
        · go_wp2_with (first
            | (go_at_call 41; (have hz := hk10); clear hz; go_loud (refine Rets.use (HTs3.out _ _ hW8 (hk9.trans hk10 (fun _ _ h => h))) ?_); rintro v11 w11 ⟨hk11, hr11⟩; obtain ⟨vs11, ho11, _⟩ := hr11; obtain ⟨A11, c11, rfl, _⟩ := ho11.slice)
            | (go_at_call 36; (have hz := hk10); clear hz; go_loud (refine Rets.use (HNx3.out _ _ hW8 (hk9.trans hk10 (fun _ _ h => h))) ?_); rintro _ _ ⟨rfl, rfl⟩)
            | (go_at_call 42; (have hz := hW8); clear hz; go_loud (refine Rets.use (HRm3.out _ _ hW8 hk9) ?_); rintro _ w10 ⟨rfl, hk10⟩)
            | (go_at_call 38; (have hz := hW8); clear hz; go_loud (refine Rets.use (HTx.out _ hW8.1) ?_); rintro v9 w9 ⟨hO9, hk9⟩; obtain ⟨A9, c9, rfl, _⟩ := hO9.slice)
            | ((with_reducible refine at_ 55 rfl ?_); go_must (refine step_load_cells rfl 72 _ rfl b (o + k * 5) [.int .i64 d.kind, .int .i64 d.n, .int .i64 d.long, vB, vK] _ rfl (HCC.out _ hW8.1) Try.underlying72 rfl info_do10 ?_))
            | (go_at_call 37; (have hz := hO7); clear hz; go_loud (refine Rets.use (HAp.out _ ((hk5.trans hk6 (fun _ _ h => h)).trans hk7 (fun _ _ h => h)) _ (hO7.rd.mono (fun j h => by have := hk5.size; have := hk6.size; omega))) ?_); rintro v8 w8 ⟨rfl, hW8⟩)
            | (go_at_call 38; (have hz := hk6); clear hz; go_loud (refine Rets.use (HTx.out _ ((HWW.out.trans hk5 (fun _ _ h => h)).trans hk6 (fun _ _ h => h))) ?_); rintro v7 w7 ⟨hO7, hk7⟩)
            | ((with_reducible refine at_ 47 rfl ?_); go_must (refine step_load_cells rfl 72 _ rfl b (o + k * 5) [.int .i64 d.kind, .int .i64 d.n, .int .i64 d.long, vB, vK] _ rfl (HCC.out _ ((HWW.out.trans hk5 (fun _ _ h => h)).trans hk6 (fun _ _ h => h))) Try.underlying72 rfl info_do10 ?_))
            | (go_at_call 41; (have hz := hk5); clear hz; go_loud (refine Rets.use (HTs.out _ hk5) ?_); rintro v6 w6 ⟨hk6, hr6⟩; obtain ⟨vs6, ho6, _⟩ := hr6; obtain ⟨A6, c6, rfl, _⟩ := ho6.slice)
            | (go_at_call 36; (have hz := hk5); clear hz; go_loud (refine Rets.use (HNx.out _ hk5) ?_); rintro _ _ ⟨rfl, rfl⟩)
            | (go_at_call 42; go_loud (refine Rets.use (HRm.out _ (Keeps.refl _ _)) ?_); rintro _ w5 ⟨rfl, hk5⟩))
          go_roundw
          case rel => exact ⟨k + 1, s, L, hlt, by go_num, ((hW8.kept hk9).kept hk10).kept hk11, HAg.out⟩
          case measure => simp [intOf]; omega
    · have hI := HAg.out.inv
      have hnx := hI.nexts
      have hmo := hI.most
      obtain ⟨sA, hsA⟩ : ∃ sA : St, sA = { s with armed := true, left := 0 } := ⟨_, rfl⟩
      have HArm := Lib.hid (show s.arm 0 = (0, sA) by rw [hsA]; simp [St.arm, hI.off])
      have HIA := Lib.hid (show WInv sA L by rw [hsA]; exact ⟨hI.off, hI.dead, hI.now, hI.next, hI.small, hI.most⟩)
      have HOp := Lib.hid HIA.out.opens
      have HBA := Lib.hid (show IsB (flatS sA.now) by rw [hsA]; exact HAg.out.flat)
      have HfA := Lib.hid (show sA.opn.length ≤ 900000 by rw [hsA]; show s.opn.length ≤ _; rw [HAg.out.opn]; decide)
      have HOff := Lib.hid HIA.out.off
      have HNA := Lib.hid HIA.out.nexts.1
      have HTl := Lib.hid (show L.texts.length ≤ 4096 by omega)
      have HTs := Lib.hid (show ∀ t ∈ L.texts, t.length ≤ 1000000 from fun t ht => by have := hI.small t ht; omega)
      obtain ⟨hK0, P, Q, hd, hmm, hP, hQ⟩ := HWr.out
      have HAr := Lib.hid (dArm_c hd 0 (by decide))
      have HM := Lib.hid hmm
      have HP := Lib.hid hP
      have HQ := Lib.hid hQ
      have HK0 := Lib.hid hK0
      clear hd hmm hI hsA HAg HWr hP hQ hK0 hnx hmo
      go_wp2_with (first
        | (go_at_call 39; go_loud (refine Rets.use (lives10_c _) ?_); rintro v12 w12 ⟨rfl, hk12⟩)
        | (go_at_call 42; (have hz := hk10); clear hz; go_loud (refine Rets.use (room_c (HD6.out.kept (((hk7.trans hk8 (fun _ _ h => h)).trans hk9 (fun _ _ h => h)).trans hk10 (fun _ _ h => h)) (fun _ _ h => h)) (HM62.out.kept (((hk7.trans hk8 (fun _ _ h => h)).trans hk9 (fun _ _ h => h)).trans hk10 (fun _ _ h => h)) (fun _ _ h => h)) HNA.out) ?_); rintro _ w11 ⟨rfl, hk11⟩)
        | (go_at_call 42; (have hz := hk9); clear hz; go_loud (refine Rets.use (room_c (HD6.out.kept ((hk7.trans hk8 (fun _ _ h => h)).trans hk9 (fun _ _ h => h)) (fun _ _ h => h)) (HM6.out.kept ((hk7.trans hk8 (fun _ _ h => h)).trans hk9 (fun _ _ h => h)) (fun _ _ h => h)) HNA.out) ?_); rintro _ w10 ⟨rfl, hk10⟩)
        | (go_at_call 36; (have hz := hn1); clear hz; go_loud (refine Rets.use (next_c (HM62.out.kept ((hk7.trans hk8 (fun _ _ h => h)).trans hk9 (fun _ _ h => h)) (fun _ _ h => h))) ?_); rintro _ _ ⟨rfl, rfl⟩)
        | (go_at_call 36; (have hz := hk9); clear hz; go_loud (refine Rets.use (next_c (HM6.out.kept ((hk7.trans hk8 (fun _ _ h => h)).trans hk9 (fun _ _ h => h)) (fun _ _ h => h))) ?_); rintro _ _ ⟨rfl, rfl⟩; (have hn1 := True.intro))
        | (go_at_call 40; (have hz := hk8); clear hz; go_loud (refine Rets.use (same07_self (RowsRd.kept (S := fun _ => False) hr7.rd hk8 (fun _ _ h => h)) hr8.rd (by have := HTl.out; omega) HTs.out) ?_); rintro _ w9 ⟨rfl, hk9⟩)
        | (go_at_call 41; (have hz := hk7); clear hz; go_loud (refine Rets.use (texts_c (HM62.out.kept hk7 (fun _ _ h => h)) HTl.out HTs.out) ?_); rintro v8 w8 ⟨hk8, hr8⟩)
        | (go_at_call 41; (have hz := HM62); clear hz; go_loud (refine Rets.use (texts_c HM6.out HTl.out HTs.out) ?_); rintro v7 w7 ⟨hk7, hr7⟩)
        | (go_at_call 28; go_loud (refine Rets.use (dOff_c HD6.out) ?_); rintro _ _ ⟨rfl, rfl⟩; rw [HOff.out])
        | (go_at_call 34; go_loud (refine Rets.use (wopen_c hd5.bound HfA.out HBA.out) ?_); rintro v6 w6 ⟨hk6, Q2, hQ2, hd6, hv6⟩; rw [HOp.out] at hd6 hv6; obtain ⟨L2, x2, e2, rfl, hm62⟩ := hv6.resolve_left (fun h => by cases h.1); (have e2' := Option.some.inj e2); subst e2'; have HD6 := Lib.hid hd6; have HM62 := Lib.hid hm62; have HM6 := Lib.hid ((HM.out.kept hk5 (fun k h h' => (HP.out k h').2.2 h)).kept hk6 (fun k h h' => by rcases h'.1 with h1 | h1; exact (HP.out k h1).2.2 h; have := (HQ.out k h).2; omega)))
        | (go_at_call 27; go_loud (refine Rets.use HAr.out ?_); intro v5 w5 hp5; rw [HArm.out] at hp5; obtain ⟨rfl, hd5, hk5⟩ := hp5))
      go_ret
      have s5 := hk5.size
      have s0 := HK0.out.size
      exact ⟨rfl, (((((((HK0.out.trans hk5 (fun k hk h => by have := (HP.out k h).1; omega)).trans hk6 (fun k hk h => by rcases h.1 with h1 | h1; have := (HP.out k h1).1; omega; omega)).trans hk7 (fun _ _ h => h)).trans hk8 (fun _ _ h => h)).trans hk9 (fun _ _ h => h)).trans hk10 (fun _ _ h => h)).trans hk11 (fun _ _ h => h)).trans hk12 (fun _ _ h => h)⟩
theorem walAgain_walk (W : World) (x0 : Int) (w0 : (Lit.int .i64 x0).wf = true) (a1 : Option Addr) (n1 c1 : Nat) (x1 : (Kd.slice KDo10).Dat) (H1 : Has W (.slice KDo10) [.slice a1 n1 c1] x1) :
    Calls Try.prog 11 #[.int .i64 x0, .slice a1 n1 c1] W (Rets (Yes W)) := walAgain_in W x0 _ _ (Dos10.of H1)
end Go.Proofs.Ytmkpdoljaccpaaa
