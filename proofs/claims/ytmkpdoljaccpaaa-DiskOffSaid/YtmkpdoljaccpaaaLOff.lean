/-
  DiskOff: the walk.
-/
import Derived.Test.YtmkpdoljaccpaaaDiskO
namespace Go.Proofs.Ytmkpdoljaccpaaa
open Go.RowKit Go.Canon Go.Mem Go.Args
set_option linter.unusedVariables false
set_option linter.unusedSimpArgs false
theorem row_bool : (Try.prog.info? 4).map (fun i => (i.zero, i.size, i.bytes)) = some (some (.bool false), 1, 1) := by kernel_rfl
/-- So many are true. -/
def Fill (n q : Nat) : List Value := List.replicate q (.bool true) ++ List.replicate (n - q) (.bool false)
theorem Fill.len {n q : Nat} (h : q ≤ n := by omega) : (Fill n q).length = n := by simp [Fill]; omega
theorem Fill.next {n q : Nat} (h : q < n) : (Fill n q).set q (.bool true) = Fill n (q + 1) := by
  unfold Fill
  rw [List.set_append, if_neg (by simp)]
  rw [show n - q = (n - (q + 1)) + 1 by omega, List.replicate_succ, List.length_replicate, Nat.sub_self, List.set_cons_zero, List.replicate_succ', List.append_assoc]; rfl
theorem Fill.all (n : Nat) : Fill n n = bools (List.replicate n true) := by simp [Fill, bools]
set_option maxHeartbeats 3200000 in
set_option maxRecDepth 100000 in
theorem off_in (W : World) (v0 v2 : Value) (l more : List Do9) (n : Int) (hD : Dos W v0 l) (hM : Dos W v2 more) : Calls Try.prog 5 #[v0, .int .i64 n, v2] W (Rets (Yes W)) := by
  have HD := Lib.hid hD
  have HM := Lib.hid hM
  obtain ⟨N, hN⟩ : ∃ N : Nat, least n 0 200 = N := ⟨(least n 0 200).toNat, by unfold least; split <;> (try split) <;> omega⟩
  have hN2 : N ≤ 200 := by unfold least at hN; split at hN <;> (try split at hN) <;> omega
  have HN := Lib.hid hN
  have HI := Lib.hid (run_inv fresh_inv (l.take 150))
  have hf := run_few (fresh 8) (l.take 150)
  have hf2 : (l.take 150).length ≤ 150 := by rw [List.length_take]; omega
  have hf0 : (fresh 8).opn.length = 0 := rfl
  have few : (run (fresh 8) (l.take 150)).opn.length ≤ 150 := by omega
  clear hD hM hN hf hf2 hf0
  generalize hs : run (fresh 8) (l.take 150) = s at *
  have HS := Lib.hid hs
  have HA := Lib.hid (arm_law HI.out (Int.natCast_nonneg N))
  clear hs
  go_enter Try.func5, Try.ntmps5
  go_wp2_with (first
    | (go_at_call 13; refine Rets.use (made09_c HD.out) ?_; rintro v w1 ⟨hk1, g, rfl, hd1⟩; have z1 := hk1.size; rw [HS.out] at hd1)
    | (go_at_call 13; refine Rets.use (made09_c (HD.out.kept hk1)) ?_; rintro v w2 ⟨hk2, gx, rfl, hd2⟩; have z2 := hk2.size; rw [HS.out] at hd2)
    | (go_at_call 22; refine Rets.use (least_c n 0 200 _) ?_; rintro v1 w3 ⟨rfl, rfl⟩; rw [HN.out])
    | (go_at_call 21; refine Rets.use (few_c HM.out) ?_; rintro v3 w3 ⟨rfl, hl⟩)
    | (go_at_call 27; go_must (refine Rets.use (dArm_c (hd1.kept hk2 (fun _ _ h => h)) N (by omega)) ?_; intro v4 w4 hp4; obtain ⟨rfl, ht4⟩ := two_post (W := W) (hk1.trans hk2 (fun _ _ h => h)) hd2 (fun k h => ⟨h.1, by omega, fun h2 => by omega⟩) (fun k h => ⟨by omega, h.2⟩) hp4; rw [HA.out]; rw [HA.out] at ht4)))
  obtain ⟨B, c, rfl, hc1, hc2, _, hin⟩ := id hl
  have HIn := Lib.hid hin
  have hm := Lib.hid (show (more.take 150).length ≤ 150 by rw [List.length_take]; omega)
  generalize more.take 150 = m at *
  have hm := hm.out
  have HT := Lib.hid ht4
  have HAt := Lib.hid (show Two W g gx (arms s ((N : Int) - (0 : Nat))) s w4 by rw [show (N : Int) - (0 : Nat) = N by omega]; exact ht4)
  clear hl hin hd1 hd2 hk1 hk2 hp4 ht4 HD HM
  go_loopw [9, 10] (fun done i wr => ∃ (k j : Nat) (sx : Disk.St), k ≤ m.length ∧ j ≤ N ∧ done = .int .i64 j ∧ i = .int .i64 k ∧ Inv sx ∧ sx.opn.length ≤ 150 + k ∧ Two W g gx (arms sx ((N : Int) - j)) sx wr) (fun _ i _ => m.length - (intOf i).toNat)
  case atStart => exact ⟨0, 0, s, Nat.zero_le _, Nat.zero_le _, rfl, rfl, HI.out, by omega, HAt.out⟩
  case round =>
    obtain ⟨k, j, sx, hk, hj, rfl, rfl, hI, fewx, hK, P, Q, hP, hQ, sP, sQ⟩ := hrel
    have HX := Lib.hid hI
    have HT2 := Lib.hid (show Two W g gx (arms sx ((N : Int) - j)) sx wr from ⟨hK, P, Q, hP, hQ, sP, sQ⟩)
    clear HAt HT HI
    by_cases hlt : k < m.length
    · obtain ⟨b, o, e, hb, vB, vK, c0, c1, c2, _, rB, lB, _⟩ := HIn.out k _ (List.getElem?_eq_getElem hlt)
      cases e
      generalize m[k] = d at *
      have c0 := hK.cell c0 (fun h => h)
      have c1 := hK.cell c1 (fun h => h)
      have c2 := hK.cell c2 (fun h => h)
      obtain ⟨z1, z2⟩ := least_in d.at_
      have HRB := Lib.hid (rB.kept hK (fun _ _ h => h))
      have hs1 := hK.size
      have lt : (d.b.take 64).length ≤ 64 := by rw [List.length_take]; omega
      clear rB
      have few0 : sx.opn.length ≤ 300 := by omega
      go_wp2
      refine Canon.region [10] [(⟨b, o + k * 4, none⟩, .int .i64 d.kind)] [(4, 0)] (.hold [0, 1, 2, 3, 5, 6, 7, 8, 9, 4] (.loud 10 (.seg [11, 12] .stop))) (by kernel_rfl) (by kernel_rfl) (by repeat (first | (with_reducible exact Safe.body) | (with_reducible apply Safe.then) | (with_reducible apply Safe.inBlock) | (dsimp +zetaDelta only))) ?_
      simp only [Canon.pick, Canon.wpPlan, List.getElem?_toArray, List.getElem?_cons_zero, List.getElem?_cons_succ]
      have Kd : Keeps (fun _ => False) wr wr.drew := (Keeps.refl _ wr).drew
      have c0 := Kd.cell c0 (fun h => h)
      have c1 := Kd.cell c1 (fun h => h)
      have c2 := Kd.cell c2 (fun h => h)
      have HRB := Lib.hid (HRB.out.kept Kd (fun _ _ h => h))
      have HT2 := Lib.hid (HT2.out.kept Kd)
      clear hP hQ sP sQ hK hs1 P Q
      generalize wr.drew = w5 at *
      obtain ⟨hK, P, Q, hP, hQ, sP, sQ⟩ := HT2.out
      have hs1 := hK.size
      refine ⟨fun p hp => by rw [List.mem_singleton] at hp; subst hp; exact c0, ?_⟩
      go_wp2_with (go_at_call 22; refine Rets.use (least_c d.at_ 0 7 _) ?_; rintro v1 w1 ⟨rfl, rfl⟩)
      refine ⟨fun p hp => by rw [List.mem_singleton] at hp; subst hp; exact c0, ?_⟩
      go_wp2
      refine ⟨by rfl, ⟨fun _ => rfl, trivial⟩, ?_⟩
      by_cases k0 : d.kind = 0
      · rw [k0] at c0
        rw [k0]
        by_cases hjn : j < N
        · have HW := Lib.hid (write_on HX.out (m := (N : Int) - j) (by omega) (least d.at_ 0 7) (d.b.take 64) z1 (by omega) lt)
          have HW2 := Lib.hid (write_few sx (least d.at_ 0 7) (d.b.take 64))
          have HW3 := Lib.hid (HX.out.write_inv (least d.at_ 0 7) (d.b.take 64) z1 (by omega) lt)
          have fewA : (arms sx ((N : Int) - j)).opn.length ≤ 1000000 := by show sx.opn.length ≤ _; omega
          go_wp2_with (first
            | (go_at_call 25; refine Rets.use (dWrite_c hP6 _ vC7 _ hC7 (fun k h1 h2 => by have := (sP6 k h2).1; omega) (by omega) (by omega)) ?_; intro v7 w7 hp7; obtain ⟨rfl, ht7⟩ := two_post hK6 hQ6 sP6 sQ6 hp7)
            | (go_at_call 24; refine Rets.use (cut_c vB d.b HRB6.out 64) ?_; rintro vC7 w7 ⟨hC7, rfl⟩)
            | (go_at_call 25; refine Rets.use (dWrite_c hP _ vC _ hC (fun k h1 h2 => by have := (sP k h2).1; omega) (by omega) fewA) ?_; intro v6 w6 hp6; obtain ⟨rfl, ht6⟩ := two_post hK hQ sP sQ hp6; have c2b := hp6.2.2.cell c2 (fun h => by have := (sP b h).1; omega); have HRB6 := Lib.hid (HRB.out.kept hp6.2.2 (fun k h1 h2 => by have := (sP k h2).1; omega)); rw [HW.out]; rw [HW.out] at ht6; obtain ⟨hK6, P6, Q6, hP6, hQ6, sP6, sQ6⟩ := ht6.swap)
            | (go_at_call 24; refine Rets.use (cut_c vB d.b HRB.out 64) ?_; rintro vC w6 ⟨hC, rfl⟩))
          go_roundw
          case rel => exact ⟨k + 1, j + 1, (sx.write (least d.at_ 0 7) (d.b.take 64)).2, by omega, by omega, by go_num, by go_num, HW3.out, by have := HW2.out; omega, by rw [show (N : Int) - ((j + 1 : Nat) : Int) = (N : Int) - j - 1 by omega]; exact ht7.swap⟩
          case measure => simp [intOf]; omega
        · obtain rfl : j = N := by omega
          have e0 : (j : Int) - j = 0 := by omega
          rw [e0] at hP
          clear e0
          have HW := Lib.hid (write_gone HX.out (least d.at_ 0 7) (d.b.take 64) z1 (by omega) lt)
          have fewA : (arms sx 0).opn.length ≤ 1000000 := by show sx.opn.length ≤ _; omega
          go_wp2_with (first
            | (go_at_call 28; refine Rets.use (dOff_c hP6) ?_; rintro v8 w8 ⟨rfl, rfl⟩; rw [show (offs sx).off = true from rfl])
            | (go_at_call 25; refine Rets.use (dWrite_c hP _ vC _ hC (fun k h1 h2 => by have := (sP k h2).1; omega) (by omega) fewA) ?_; intro v6 w6 hp6; obtain ⟨rfl, ht6⟩ := two_post hK hQ sP sQ hp6; rw [HW.out]; rw [HW.out] at ht6; obtain ⟨hK6, P6, Q6, hP6, hQ6, sP6, sQ6⟩ := id ht6)
            | (go_at_call 24; refine Rets.use (cut_c vB d.b HRB.out 64) ?_; rintro vC w6 ⟨hC, rfl⟩))
          have hlk := like_offs sx
          have hof : (offs sx).off = true := rfl
          generalize offs sx = sd at *
          obtain ⟨hKt, Pt, Qt, hPt, hQt, sPt, sQt⟩ := ht6
          have z5 := hKt.size
          have HRead := Lib.hid (show (sd.read 0).2 = 14 by rw [read0 HX.out hlk, hof]; rfl)
          have HOf := Lib.hid hof
          have fewS : sx.opn.length ≤ 1000 := by omega
          have fewD : sd.opn.length ≤ 1000 := by rw [hlk.opn]; exact fewS
          have HC := Lib.hid (fun n (h : sd.opn.length = n) => crash_all HX.out hlk h)
          obtain ⟨no, hno⟩ : ∃ no, sd.opn.length = no := ⟨_, rfl⟩
          have HNo := Lib.hid hno
          have HNx := Lib.hid (show sx.opn.length = no by rw [← hlk.opn]; exact hno)
          have HCr := Lib.hid (crash_all HX.out hlk hno).2
          have HBig := Lib.hid (rows_big HX.out)
          have nob : no ≤ 1000 := by omega
          clear hno hof hlk
          refine Rets.use (dReadRow_c hPt 0) ?_
          rintro v8 w8 ⟨hk8, u8, rfl, hr8⟩
          rw [HRead.out]
          have z8 := hk8.size
          go_wp2_with (first
            | (go_at_call 28; refine Rets.use (dOff_c (hPt.kept hk8 (fun _ _ h => h))) ?_; rintro v9 w9 ⟨rfl, rfl⟩; rw [HOf.out])
            | (go_at_call 15; refine Rets.use (dOpen_c (hPt.kept hk8 (fun _ _ h => h))) ?_; rintro v9 w9 ⟨rfl, rfl⟩; rw [HNo.out])
            | ((with_reducible refine at_ 120 rfl ?_); go_must (refine step_make rfl _ _ _ rfl 4 _ 1 1 Try.underlying23 row_bool _ _ no rfl rfl (by omega) (by simp only [maxLen]; omega) ?_); intro w10 hb10 hk10))
          rw [show madeCells (Value.bool false).cells (no * 1) = (Fill no 0).toArray by rw [Nat.mul_one]; exact made_rep 1 no (.bool false) (by decide)] at hb10
          obtain ⟨we, hwe⟩ : ∃ we : Nat, we = w8.heap.size := ⟨_, rfl⟩
          rw [← hwe] at hb10
          rw [← hwe]
          have HFil := Lib.hid hb10
          have HW8 := Lib.hid hwe
          have z10 := hk10.size
          clear hb10 hwe
          go_loopw [17] (fun i wr => ∃ q : Nat, q ≤ no ∧ i = .int .i64 q ∧ Keeps (· = we) w10 wr ∧ wr.heap[we]? = some (.cells (Fill no q).toArray 4 (0, 0))) (fun i _ => no - (intOf i).toNat)
          case atStart => exact ⟨0, Nat.zero_le _, rfl, Keeps.refl _ w10, HFil.out⟩
          case round =>
            obtain ⟨q, hq, rfl, hKq, hbq⟩ := hrel
            by_cases hlq : q < no
            · have HBq := Lib.hid hbq
              have HKq := Lib.hid hKq
              clear hbq hKq
              go_wp2_with ((with_reducible refine at_store 4 (.tmp 129) (.const (.bool true)) rfl ?_); go_must (refine step_store1 rfl _ _ _ rfl we q (.bool true) _ _ rfl rfl rfl HBq.out (by rw [Fill.len]; exact hlq) info_bool ?_); intro w12 hb12 hk12 hs12)
              go_roundw
              case rel => exact ⟨q + 1, by omega, by go_num, HKq.out.trans hk12 (fun _ _ h => h), by rw [hb12, Fill.next hlq]⟩
              case measure => simp [intOf]; omega
            · obtain rfl : q = no := by omega
              have hKE : Keeps (fun _ => False) w8 wr := hk10.trans hKq (fun k h1 h2 => by have := HW8.out; omega)
              have hPe := (hPt.kept hk8 (fun _ _ h => h)).kept hKE (fun _ _ h => h)
              have hQe := (hQt.kept hk8 (fun _ _ h => h)).kept hKE (fun _ _ h => h)
              have hRe : Rd wr (fun k => k = we) (.slice (some ⟨we, 0, none⟩) q q) (List.replicate q true).length (bools (List.replicate q true)) := ⟨some ⟨we, 0, none⟩, q, by rw [List.length_replicate], by rw [List.length_replicate]; exact Nat.le_refl _, fun h => (by cases h), .inr ⟨we, 0, rfl, rfl, fun j u hu => by rw [cell_of_row wr _ _ _ _ _ hbq, Nat.zero_add, Fill.all]; simpa using hu⟩⟩
              have hwe8 : w8.heap.size = we := HW8.out.symm
              have z11 := hKE.size
              have lkr : (List.replicate q true).length ≤ 9223372036854775807 := by rw [List.length_replicate]; omega
              have HKe := Lib.hid hKE
              clear hbq hKq HFil hwe8
              have hwe1 : we ≤ w8.heap.size := by rw [HW8.out]; exact Nat.le_refl _
              have hwe2 : w8.heap.size ≤ we := by rw [HW8.out]; exact Nat.le_refl _
              clear HW8
              go_wp2_with (first
                | (go_at_call 20; refine Rets.use (lives09_c _) ?_; rintro v w18 ⟨rfl, hk18⟩)
                | (go_at_call 19; refine Rets.use (same09_c (hr16.rd.kept hk17 (fun _ _ h => h)) hr17.rd (by rw [rows_len, rows_len]) (by rw [rows_len]; decide) HBig.out) ?_; rintro v w18 ⟨rfl, hk17b⟩; rw [HCr.out])
                | (go_at_call 16; refine Rets.use (all_c (hd15.bound.kept hk16 (fun _ _ h => h)) (fun k h => by omega)) ?_; rintro v17 w17 ⟨hk17, hr17⟩)
                | (go_at_call 16; refine Rets.use (all_c (hQe.kept hk15 (fun k h1 h2 => (sPt k h2).2.2 h1)) (fun k h => by have := (sQt k h).2; omega)) ?_; rintro v16 w16 ⟨hk16, hr16⟩; have z16 := hk16.size)
                | (go_at_call 28; refine Rets.use (dOff_c hd15) ?_; rintro v9 w15b ⟨rfl, rfl⟩)
                | (go_at_call 17; go_loud (refine Rets.use (dCrash_c (ok := fun k => k = we) hPe (by omega) _ _ hRe (fun k h1 h2 => by have := (sPt k h2).2.1; omega) lkr) ?_; rintro v w15 ⟨rfl, hd15, hk15⟩; have z15 := hk15.size))
                | (go_at_call 15; refine Rets.use (dOpen_c hPe) ?_; rintro v9 w13 ⟨rfl, rfl⟩; rw [HNo.out])
                | (go_at_call 15; refine Rets.use (dOpen_c hQe) ?_; rintro v9 w13 ⟨rfl, rfl⟩; rw [HNx.out]))
              go_ret
              exact ⟨rfl, ((((((hKt.trans hk8 (fun _ _ h => h)).trans HKe.out (fun _ _ h => h)).trans hk15 (fun k h1 h2 => by have := (sPt k h2).1; omega)).trans hk16 (fun _ _ h => h)).trans hk17 (fun _ _ h => h)).trans hk17b (fun _ _ h => h)).trans hk18 (fun _ _ h => h)⟩
      · by_cases k1 : d.kind = 1
        · rw [k1] at c0
          rw [k1]
          by_cases hjn : j < N
          · have HW := Lib.hid (sync_on HX.out (m := (N : Int) - j) (by omega))
            have HW2 := Lib.hid (sync_few sx)
            have HW3 := Lib.hid HX.out.sync_inv
            have fewA : (arms sx ((N : Int) - j)).opn.length ≤ 1000000 := by show sx.opn.length ≤ _; omega
            go_wp2_with (first
              | (go_at_call 14; refine Rets.use (dSync_c hP6 (by omega)) ?_; intro v7 w7 hp7; obtain ⟨rfl, ht7⟩ := two_post hK6 hQ6 sP6 sQ6 hp7)
              | (go_at_call 14; refine Rets.use (dSync_c hP fewA) ?_; intro v6 w6 hp6; obtain ⟨rfl, ht6⟩ := two_post hK hQ sP sQ hp6; rw [HW.out]; rw [HW.out] at ht6; obtain ⟨hK6, P6, Q6, hP6, hQ6, sP6, sQ6⟩ := ht6.swap))
            go_roundw
            case rel => exact ⟨k + 1, j + 1, sx.sync.2, by omega, by omega, by go_num, by go_num, HW3.out, by have := HW2.out; omega, by rw [show (N : Int) - ((j + 1 : Nat) : Int) = (N : Int) - j - 1 by omega]; exact ht7.swap⟩
            case measure => simp [intOf]; omega
          · obtain rfl : j = N := by omega
            have e0 : (j : Int) - j = 0 := by omega
            rw [e0] at hP
            clear e0
            have HW := Lib.hid (sync_gone HX.out)
            have fewA : (arms sx 0).opn.length ≤ 1000000 := by show sx.opn.length ≤ _; omega
            go_wp2_with (first
              | (go_at_call 28; refine Rets.use (dOff_c hP6) ?_; rintro v8 w8 ⟨rfl, rfl⟩; rw [show (offs sx).off = true from rfl])
              | (go_at_call 14; refine Rets.use (dSync_c hP fewA) ?_; intro v6 w6 hp6; obtain ⟨rfl, ht6⟩ := two_post hK hQ sP sQ hp6; rw [HW.out]; rw [HW.out] at ht6; obtain ⟨hK6, P6, Q6, hP6, hQ6, sP6, sQ6⟩ := id ht6))
            have hlk := like_offs sx
            have hof : (offs sx).off = true := rfl
            generalize offs sx = sd at *
            obtain ⟨hKt, Pt, Qt, hPt, hQt, sPt, sQt⟩ := ht6
            have z5 := hKt.size
            have HRead := Lib.hid (show (sd.read 0).2 = 14 by rw [read0 HX.out hlk, hof]; rfl)
            have HOf := Lib.hid hof
            have fewS : sx.opn.length ≤ 1000 := by omega
            have fewD : sd.opn.length ≤ 1000 := by rw [hlk.opn]; exact fewS
            have HC := Lib.hid (fun n (h : sd.opn.length = n) => crash_all HX.out hlk h)
            obtain ⟨no, hno⟩ : ∃ no, sd.opn.length = no := ⟨_, rfl⟩
            have HNo := Lib.hid hno
            have HNx := Lib.hid (show sx.opn.length = no by rw [← hlk.opn]; exact hno)
            have HCr := Lib.hid (crash_all HX.out hlk hno).2
            have HBig := Lib.hid (rows_big HX.out)
            have nob : no ≤ 1000 := by omega
            clear hno hof hlk
            refine Rets.use (dReadRow_c hPt 0) ?_
            rintro v8 w8 ⟨hk8, u8, rfl, hr8⟩
            rw [HRead.out]
            have z8 := hk8.size
            go_wp2_with (first
              | (go_at_call 28; refine Rets.use (dOff_c (hPt.kept hk8 (fun _ _ h => h))) ?_; rintro v9 w9 ⟨rfl, rfl⟩; rw [HOf.out])
              | (go_at_call 15; refine Rets.use (dOpen_c (hPt.kept hk8 (fun _ _ h => h))) ?_; rintro v9 w9 ⟨rfl, rfl⟩; rw [HNo.out])
              | ((with_reducible refine at_ 120 rfl ?_); go_must (refine step_make rfl _ _ _ rfl 4 _ 1 1 Try.underlying23 row_bool _ _ no rfl rfl (by omega) (by simp only [maxLen]; omega) ?_); intro w10 hb10 hk10))
            rw [show madeCells (Value.bool false).cells (no * 1) = (Fill no 0).toArray by rw [Nat.mul_one]; exact made_rep 1 no (.bool false) (by decide)] at hb10
            obtain ⟨we, hwe⟩ : ∃ we : Nat, we = w8.heap.size := ⟨_, rfl⟩
            rw [← hwe] at hb10
            rw [← hwe]
            have HFil := Lib.hid hb10
            have HW8 := Lib.hid hwe
            have z10 := hk10.size
            clear hb10 hwe
            go_loopw [17] (fun i wr => ∃ q : Nat, q ≤ no ∧ i = .int .i64 q ∧ Keeps (· = we) w10 wr ∧ wr.heap[we]? = some (.cells (Fill no q).toArray 4 (0, 0))) (fun i _ => no - (intOf i).toNat)
            case atStart => exact ⟨0, Nat.zero_le _, rfl, Keeps.refl _ w10, HFil.out⟩
            case round =>
              obtain ⟨q, hq, rfl, hKq, hbq⟩ := hrel
              by_cases hlq : q < no
              · have HBq := Lib.hid hbq
                have HKq := Lib.hid hKq
                clear hbq hKq
                go_wp2_with ((with_reducible refine at_store 4 (.tmp 129) (.const (.bool true)) rfl ?_); go_must (refine step_store1 rfl _ _ _ rfl we q (.bool true) _ _ rfl rfl rfl HBq.out (by rw [Fill.len]; exact hlq) info_bool ?_); intro w12 hb12 hk12 hs12)
                go_roundw
                case rel => exact ⟨q + 1, by omega, by go_num, HKq.out.trans hk12 (fun _ _ h => h), by rw [hb12, Fill.next hlq]⟩
                case measure => simp [intOf]; omega
              · obtain rfl : q = no := by omega
                have hKE : Keeps (fun _ => False) w8 wr := hk10.trans hKq (fun k h1 h2 => by have := HW8.out; omega)
                have hPe := (hPt.kept hk8 (fun _ _ h => h)).kept hKE (fun _ _ h => h)
                have hQe := (hQt.kept hk8 (fun _ _ h => h)).kept hKE (fun _ _ h => h)
                have hRe : Rd wr (fun k => k = we) (.slice (some ⟨we, 0, none⟩) q q) (List.replicate q true).length (bools (List.replicate q true)) := ⟨some ⟨we, 0, none⟩, q, by rw [List.length_replicate], by rw [List.length_replicate]; exact Nat.le_refl _, fun h => (by cases h), .inr ⟨we, 0, rfl, rfl, fun j u hu => by rw [cell_of_row wr _ _ _ _ _ hbq, Nat.zero_add, Fill.all]; simpa using hu⟩⟩
                have hwe8 : w8.heap.size = we := HW8.out.symm
                have z11 := hKE.size
                have lkr : (List.replicate q true).length ≤ 9223372036854775807 := by rw [List.length_replicate]; omega
                have HKe := Lib.hid hKE
                clear hbq hKq HFil hwe8
                have hwe1 : we ≤ w8.heap.size := by rw [HW8.out]; exact Nat.le_refl _
                have hwe2 : w8.heap.size ≤ we := by rw [HW8.out]; exact Nat.le_refl _
                clear HW8
                go_wp2_with (first
                  | (go_at_call 20; refine Rets.use (lives09_c _) ?_; rintro v w18 ⟨rfl, hk18⟩)
                  | (go_at_call 19; refine Rets.use (same09_c (hr16.rd.kept hk17 (fun _ _ h => h)) hr17.rd (by rw [rows_len, rows_len]) (by rw [rows_len]; decide) HBig.out) ?_; rintro v w18 ⟨rfl, hk17b⟩; rw [HCr.out])
                  | (go_at_call 16; refine Rets.use (all_c (hd15.bound.kept hk16 (fun _ _ h => h)) (fun k h => by omega)) ?_; rintro v17 w17 ⟨hk17, hr17⟩)
                  | (go_at_call 16; refine Rets.use (all_c (hQe.kept hk15 (fun k h1 h2 => (sPt k h2).2.2 h1)) (fun k h => by have := (sQt k h).2; omega)) ?_; rintro v16 w16 ⟨hk16, hr16⟩; have z16 := hk16.size)
                  | (go_at_call 28; refine Rets.use (dOff_c hd15) ?_; rintro v9 w15b ⟨rfl, rfl⟩)
                  | (go_at_call 17; go_loud (refine Rets.use (dCrash_c (ok := fun k => k = we) hPe (by omega) _ _ hRe (fun k h1 h2 => by have := (sPt k h2).2.1; omega) lkr) ?_; rintro v w15 ⟨rfl, hd15, hk15⟩; have z15 := hk15.size))
                  | (go_at_call 15; refine Rets.use (dOpen_c hPe) ?_; rintro v9 w13 ⟨rfl, rfl⟩; rw [HNo.out])
                  | (go_at_call 15; refine Rets.use (dOpen_c hQe) ?_; rintro v9 w13 ⟨rfl, rfl⟩; rw [HNx.out]))
                go_ret
                exact ⟨rfl, ((((((hKt.trans hk8 (fun _ _ h => h)).trans HKe.out (fun _ _ h => h)).trans hk15 (fun k h1 h2 => by have := (sPt k h2).1; omega)).trans hk16 (fun _ _ h => h)).trans hk17 (fun _ _ h => h)).trans hk17b (fun _ _ h => h)).trans hk18 (fun _ _ h => h)⟩
        · have hb0 : (d.kind != 0) = true := by simpa using k0
          have hb1 : (d.kind != 1) = true := by simpa using k1
          go_wp2
          go_roundw
          case rel => exact ⟨k + 1, j, sx, by omega, by omega, by go_num, by go_num, HX.out, by omega, HT2.out⟩
          case measure => simp [intOf]; omega
    · have HT2 := HT2.out
      have hlk := like_arms sx ((N : Int) - j)
      have hof : (arms sx ((N : Int) - j)).off = false := HX.out.off
      generalize arms sx ((N : Int) - j) = sd at *
      go_wp2_with (go_at_call 20; refine Rets.use (lives09_c _) ?_)
      obtain ⟨hKt, Pt, Qt, hPt, hQt, sPt, sQt⟩ := HT2
      have z5 := hKt.size
      have HRead := Lib.hid (show (sd.read 0).2 = 0 by rw [read0 HX.out hlk, hof]; rfl)
      have HOf := Lib.hid hof
      have fewS : sx.opn.length ≤ 1000 := by omega
      have fewD : sd.opn.length ≤ 1000 := by rw [hlk.opn]; exact fewS
      have HC := Lib.hid (fun n (h : sd.opn.length = n) => crash_all HX.out hlk h)
      obtain ⟨no, hno⟩ : ∃ no, sd.opn.length = no := ⟨_, rfl⟩
      have HNo := Lib.hid hno
      have HNx := Lib.hid (show sx.opn.length = no by rw [← hlk.opn]; exact hno)
      have HCr := Lib.hid (crash_all HX.out hlk hno).2
      have HBig := Lib.hid (rows_big HX.out)
      have nob : no ≤ 1000 := by omega
      clear hno hof hlk
      refine Rets.use (dReadRow_c hPt 0) ?_
      rintro v8 w8 ⟨hk8, u8, rfl, hr8⟩
      rw [HRead.out]
      have z8 := hk8.size
      go_wp2_with (first
        | (go_at_call 28; refine Rets.use (dOff_c (hPt.kept hk8 (fun _ _ h => h))) ?_; rintro v9 w9 ⟨rfl, rfl⟩; rw [HOf.out])
        | (go_at_call 15; refine Rets.use (dOpen_c (hPt.kept hk8 (fun _ _ h => h))) ?_; rintro v9 w9 ⟨rfl, rfl⟩; rw [HNo.out])
        | ((with_reducible refine at_ 120 rfl ?_); go_must (refine step_make rfl _ _ _ rfl 4 _ 1 1 Try.underlying23 row_bool _ _ no rfl rfl (by omega) (by simp only [maxLen]; omega) ?_); intro w10 hb10 hk10))
      rw [show madeCells (Value.bool false).cells (no * 1) = (Fill no 0).toArray by rw [Nat.mul_one]; exact made_rep 1 no (.bool false) (by decide)] at hb10
      obtain ⟨we, hwe⟩ : ∃ we : Nat, we = w8.heap.size := ⟨_, rfl⟩
      rw [← hwe] at hb10
      rw [← hwe]
      have HFil := Lib.hid hb10
      have HW8 := Lib.hid hwe
      have z10 := hk10.size
      clear hb10 hwe
      go_loopw [17] (fun i wr => ∃ q : Nat, q ≤ no ∧ i = .int .i64 q ∧ Keeps (· = we) w10 wr ∧ wr.heap[we]? = some (.cells (Fill no q).toArray 4 (0, 0))) (fun i _ => no - (intOf i).toNat)
      case atStart => exact ⟨0, Nat.zero_le _, rfl, Keeps.refl _ w10, HFil.out⟩
      case round =>
        obtain ⟨q, hq, rfl, hKq, hbq⟩ := hrel
        by_cases hlq : q < no
        · have HBq := Lib.hid hbq
          have HKq := Lib.hid hKq
          clear hbq hKq
          go_wp2_with ((with_reducible refine at_store 4 (.tmp 129) (.const (.bool true)) rfl ?_); go_must (refine step_store1 rfl _ _ _ rfl we q (.bool true) _ _ rfl rfl rfl HBq.out (by rw [Fill.len]; exact hlq) info_bool ?_); intro w12 hb12 hk12 hs12)
          go_roundw
          case rel => exact ⟨q + 1, by omega, by go_num, HKq.out.trans hk12 (fun _ _ h => h), by rw [hb12, Fill.next hlq]⟩
          case measure => simp [intOf]; omega
        · obtain rfl : q = no := by omega
          have hKE : Keeps (fun _ => False) w8 wr := hk10.trans hKq (fun k h1 h2 => by have := HW8.out; omega)
          have hPe := (hPt.kept hk8 (fun _ _ h => h)).kept hKE (fun _ _ h => h)
          have hQe := (hQt.kept hk8 (fun _ _ h => h)).kept hKE (fun _ _ h => h)
          have hRe : Rd wr (fun k => k = we) (.slice (some ⟨we, 0, none⟩) q q) (List.replicate q true).length (bools (List.replicate q true)) := ⟨some ⟨we, 0, none⟩, q, by rw [List.length_replicate], by rw [List.length_replicate]; exact Nat.le_refl _, fun h => (by cases h), .inr ⟨we, 0, rfl, rfl, fun j u hu => by rw [cell_of_row wr _ _ _ _ _ hbq, Nat.zero_add, Fill.all]; simpa using hu⟩⟩
          have hwe8 : w8.heap.size = we := HW8.out.symm
          have z11 := hKE.size
          have lkr : (List.replicate q true).length ≤ 9223372036854775807 := by rw [List.length_replicate]; omega
          have HKe := Lib.hid hKE
          clear hbq hKq HFil hwe8
          have hwe1 : we ≤ w8.heap.size := by rw [HW8.out]; exact Nat.le_refl _
          have hwe2 : w8.heap.size ≤ we := by rw [HW8.out]; exact Nat.le_refl _
          clear HW8
          go_wp2_with (first
            | (go_at_call 20; refine Rets.use (lives09_c _) ?_; rintro v w18 ⟨rfl, hk18⟩)
            | (go_at_call 19; refine Rets.use (same09_c (hr16.rd.kept hk17 (fun _ _ h => h)) hr17.rd (by rw [rows_len, rows_len]) (by rw [rows_len]; decide) HBig.out) ?_; rintro v w18 ⟨rfl, hk17b⟩; rw [HCr.out])
            | (go_at_call 16; refine Rets.use (all_c (hd15.bound.kept hk16 (fun _ _ h => h)) (fun k h => by omega)) ?_; rintro v17 w17 ⟨hk17, hr17⟩)
            | (go_at_call 16; refine Rets.use (all_c (hQe.kept hk15 (fun k h1 h2 => (sPt k h2).2.2 h1)) (fun k h => by have := (sQt k h).2; omega)) ?_; rintro v16 w16 ⟨hk16, hr16⟩; have z16 := hk16.size)
            | (go_at_call 28; refine Rets.use (dOff_c hd15) ?_; rintro v9 w15b ⟨rfl, rfl⟩)
            | (go_at_call 17; go_loud (refine Rets.use (dCrash_c (ok := fun k => k = we) hPe (by omega) _ _ hRe (fun k h1 h2 => by have := (sPt k h2).2.1; omega) lkr) ?_; rintro v w15 ⟨rfl, hd15, hk15⟩; have z15 := hk15.size))
            | (go_at_call 15; refine Rets.use (dOpen_c hPe) ?_; rintro v9 w13 ⟨rfl, rfl⟩; rw [HNo.out])
            | (go_at_call 15; refine Rets.use (dOpen_c hQe) ?_; rintro v9 w13 ⟨rfl, rfl⟩; rw [HNx.out]))
          go_ret
          exact ⟨rfl, ((((((hKt.trans hk8 (fun _ _ h => h)).trans HKe.out (fun _ _ h => h)).trans hk15 (fun k h1 h2 => by have := (sPt k h2).1; omega)).trans hk16 (fun _ _ h => h)).trans hk17 (fun _ _ h => h)).trans hk17b (fun _ _ h => h)).trans hk18 (fun _ _ h => h)⟩
theorem off_walk (W : World) (a0 : Option Addr) (n0 c0 : Nat) (x0 : (Kd.slice KDo).Dat) (H0 : Has W (.slice KDo) [.slice a0 n0 c0] x0) (n : Int) (w1 : (Lit.int .i64 n).wf = true) (a2 : Option Addr) (n2 c2 : Nat) (x2 : (Kd.slice KDo).Dat) (H2 : Has W (.slice KDo) [.slice a2 n2 c2] x2) :
    Calls Try.prog 5 #[.slice a0 n0 c0, .int .i64 n, .slice a2 n2 c2] W (Rets (Yes W)) := off_in W _ _ _ _ n (Dos.of H0) (Dos.of H2)
end Go.Proofs.Ytmkpdoljaccpaaa
