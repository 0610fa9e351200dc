/-
  The walk of Write where it writes (or the power goes off with it).
-/
import Derived.Test.YtbiohidelhfaiaaDisk
namespace Go.Proofs.Ytbiohidelhfaiaa
open Go.RowKit Go.Canon Go.Mem
set_option linter.unusedVariables false
set_option linter.unusedSimpArgs false
section
variable {w : World} {S : Nat → Prop} {g F N : Nat} {vo : Value} {s : Disk.St}
theorem put_pad {b : List Int} (x : Int) (h : b.length ≤ 64) : put (.int .i64 x :: Disk.bytes8 Disk.zsec) 1 (Disk.bytes8 b) = .int .i64 x :: Disk.bytes8 (Disk.pad b) := by
  unfold put Disk.pad
  rw [Disk.bytes8_append, Nat.add_comm 1, List.drop_succ_cons, List.take_succ_cons, List.take_zero, Disk.bytes8_len]
  simp [Disk.bytes8]
set_option maxHeartbeats 1600000 in
set_option maxRecDepth 100000 in
theorem write_ok {ok : Nat → Prop} (h : DParts w S g F N vo s) (k : Nat) (v : Value) (b : List Int) (hr : Rd w ok v b.length (Disk.bytes8 b)) (hok : ∀ k, ok k → ¬ S k) (ho : s.off = false) (hk : k < s.now.length) (hl : b.length ≤ 64) (few : s.opn.length ≤ 1000000) :
    Calls Try.prog 85 #[.pointer (some ⟨g, 0, none⟩), .int .i64 k, v] w (Rets (WritePost w S g F N s k b)) := by
  obtain ⟨A, c, rfl, hc, _⟩ := hr.slice
  have c1 := h.cell 1 _ rfl
  have hm := h.ok.most
  obtain ⟨t1, t2, t3⟩ := step_same s
  have HR := Lib.hid (show (if s.off = true then 14 else 0) = (0 : Int) by simp [ho])
  have HO := Lib.hid ho
  clear ho
  cases hs : s.step.1
  · have HS := Lib.hid (show (if s.step.1 = true then 0 else 14) = (14 : Int) by simp [hs])
    have HE := Lib.hid (show s.write k b = (14, s.step.2) by
      unfold Disk.St.write
      rw [if_neg (by simp [HO.out]), if_neg (by omega), if_neg (by simp [hs])])
    clear hs t1 t2 t3
    go_enter Try.func85, Try.ntmps85
    go_wp2_with (first
      | (go_at_call 61; refine Rets.use (ready_c h) ?_; rw [HR.out]; rintro v w' ⟨rfl, rfl⟩)
      | (go_at_call 100; refine Rets.use (step_c h) ?_; rintro v w' ⟨rfl, hp, hk⟩; rw [HS.out]))
    go_ret
    refine ⟨by rw [HE.out]; rfl, ⟨vo, ?_⟩, hk.mono (fun k _ e => by subst e; exact h.inS.1)⟩
    rw [HE.out]; exact hp.wide (fun k hk => .inl hk)
  · have HS := Lib.hid (show (if s.step.1 = true then 0 else 14) = (0 : Int) by simp [hs])
    have HE := Lib.hid (show s.write k b = (0, { s.step.2 with now := s.now.set k (Disk.pad b), opn := s.opn ++ [((k : Int), Disk.pad b)] }) by
      unfold Disk.St.write
      rw [if_neg (by simp [HO.out]), if_neg (by omega), if_pos hs]; rfl)
    have T1 := Lib.hid t1
    have T2 := Lib.hid t2
    have T3 := Lib.hid t3
    have HB := Lib.hid (Disk.bytes8_len b)
    have HZ := Lib.hid (show (Disk.bytes8 Disk.zsec).length = 64 by rw [Disk.bytes8_len, Disk.zsec_len])
    have HP := Lib.hid (show (Disk.bytes8 (Disk.pad b)).length = 64 by rw [Disk.bytes8_len, Disk.pad_len hl])
    have HPut := Lib.hid (put_pad (b := b) k hl)
    have HOne := Lib.hid (all_oneCell_toArray (Disk.bytes8_one (Disk.pad b)))
    have HOne2 := Lib.hid (all_oneCell_toArray (cs := .int .i64 k :: Disk.bytes8 Disk.zsec) (by intro v hv; rcases List.mem_cons.1 hv with rfl | hv; rfl; exact Disk.bytes8_one _ v hv))
    clear hs t1 t2 t3
    go_enter Try.func85, Try.ntmps85
    go_wp2_with (first
      | (go_at_call 61; refine Rets.use (ready_c h) ?_; rw [HR.out]; rintro v w' ⟨rfl, rfl⟩)
      | (go_at_call 100; refine Rets.use (step_c h) ?_; rintro v w1 ⟨rfl, hp1, hk1⟩; rw [HS.out]; have hr1 := hr.lt.kept hk1 (fun k hh e => hok k hh.1 (by rw [e]; exact h.inS.1)))
      | ((with_reducible refine at_ 37 rfl ?_); go_must (refine step_build rfl 119 _ rfl [(0, .int .i64 k)] rfl _ (build_wr k) ?_))
      | ((with_reducible refine at_ 9 rfl ?_); go_must (refine step_alloc rfl 119 rfl _ _ zero_wr rfl ?_); intro w2 hb2 hk2 hs2)
      | ((with_reducible refine at_store 119 (.tmp 9) (.tmp 37) rfl ?_); go_must (refine step_store rfl _ _ _ rfl w1.heap.size 0 (.int .i64 k :: Disk.bytes8 Disk.zsec) _ _ rfl rfl hb2 (by simp) (by rw [List.length_cons, HZ.out]; exact info_wr) HOne2.out ?_); intro w3 hb3 hk3 hs3; rw [put_whole (by simp)] at hb3; clear hb2; have hr3 := (hr1.kept hk2 (fun _ _ h => h)).kept hk3 (fun k hh e => by have := hk1.size; omega))
      | ((with_reducible refine at_ 41 rfl ?_); go_must (refine step_copy (ok := fun k => ok k ∧ k < w.heap.size) rfl (.tmp 39) (.tmp 40) _ _ rfl 5 Try.underlying23 info_byte w1.heap.size 1 64 64 _ _ (.slice A b.length c) (Disk.bytes8 b) rfl rfl (by rw [HB.out]; exact hr3) (by rw [HB.out]; exact hl) hb3 (by rw [List.length_cons, HZ.out, HB.out]; omega) (Disk.bytes8_one b) ?_); intro w4 hb4 hk4 hs4; rw [HPut.out] at hb4; clear hb3))
    have lg := lt_of hp1.blk
    have lN := lt_of hp1.bN
    have lF := lt_of hp1.bF
    have K4 : Keeps (· = w1.heap.size) w1 w4 := ((hk2.mono (fun _ _ h => h.elim)).trans hk3 (fun _ _ h => h)).trans hk4 (fun _ _ h => h)
    have bg4 := K4.heap hp1.blk (Nat.ne_of_lt lg)
    have bN4 := K4.heap hp1.bN (Nat.ne_of_lt lN)
    rw [T1.out] at bg4 bN4
    have c1_4 := (cell_of_row w4 g 1 _ _ _ bg4).trans (show _ = some (Value.slice (some ⟨N, 0, none⟩) s.now.length s.now.length) from rfl)
    have S4 : w4.heap.size = w1.heap.size + 1 := by rw [hs4, hs3, hs2]
    have HVT := Lib.hid (show ((Value.int .i64 (k : Int) :: Disk.bytes8 (Disk.pad b)).drop 1).take (Disk.bytes8 (Disk.pad b)).length = Disk.bytes8 (Disk.pad b) by simp)
    have HFlat := Lib.hid (show (Disk.flat s.now).length = s.now.length * 64 from Disk.flat_len h.ok.n64)
    have HSet := Lib.hid (Disk.flat_set h.ok.n64 k (Disk.pad b) hk (Disk.pad_len hl))
    clear hr1 hr3 hr c1
    refine Canon.row [0, 1, 2, 4, 5, 3, 6, 7, 8] (by kernel_rfl) (by kernel_rfl) (by repeat (first | (with_reducible exact Safe.body) | (with_reducible apply Safe.then) | (with_reducible apply Safe.inBlock) | (dsimp +zetaDelta only))) ?_
    simp only [Canon.pick, Canon.wpPlan, List.getElem?_toArray, List.getElem?_cons_zero, List.getElem?_cons_succ]
    have Kd : Keeps (fun _ => False) w4 w4.drew := (Keeps.refl _ w4).drew
    have sd : w4.drew.heap.size = w4.heap.size := rfl
    have c1_5 : w4.drew.cell? ⟨g, 1, none⟩ = some (Value.slice (some ⟨N, 0, none⟩) s.now.length s.now.length) := c1_4
    have bN5 := Kd.heap bN4 (fun h => h)
    have bW5 := Kd.heap hb4 (fun h => h)
    generalize w4.drew = w5 at *
    go_wp2_with (first
      | ((with_reducible refine at_ 48 rfl ?_); go_must (refine step_load rfl 117 _ rfl w1.heap.size 1 (Disk.bytes8 (Disk.pad b)) _ _ _ _ rfl bW5 HVT.out Try.underlying117 rfl (by rw [HP.out]; exact info_sec) ?_))
      | ((with_reducible refine at_store 117 (.tmp 49) (.tmp 48) rfl ?_); go_must (refine step_store rfl _ _ _ rfl N (k * 64) (Disk.bytes8 (Disk.pad b)) _ _ rfl rfl bN5 (by rw [HP.out, HFlat.out]; omega) (by rw [HP.out]; exact info_sec) HOne.out ?_); intro w6 bN6 hk6 hs6; rw [HSet.out] at bN6))
    refine ⟨by rfl, trivial, ?_⟩
    go_wp2_with fail
    have K6 : Keeps (fun k => k = w1.heap.size ∨ k = N) w1 w6 := ((K4.mono (fun _ _ h => .inl h)).trans Kd (fun _ _ h => h.elim)).trans hk6 (fun _ _ h => .inr h)
    have ng : ¬ (g = w1.heap.size ∨ g = N) := fun e => e.elim (Nat.ne_of_lt lg) (fun e => h.ne.2.1 e.symm)
    have bg6 := K6.heap hp1.blk ng
    have bF6 := K6.heap hp1.bF (fun e => e.elim (Nat.ne_of_lt lF) (fun e => h.ne.2.2 e.symm))
    have own6 := (hp1.own.mono (ok' := fun k => (S k ∧ k ≠ g ∧ k ≠ F ∧ k ≠ N) ∧ k < w1.heap.size) (fun k hk hh => ⟨hh, hk⟩)).kept K6 (fun k hh e => e.elim (fun e => Nat.ne_of_lt hh.2 e) hh.1.2.2.2)
    have bW6 := hk6.heap bW5 (fun e => Nat.ne_of_lt lN e.symm)
    rw [T1.out] at bg6
    rw [T2.out] at bF6
    rw [T3.out] at own6
    have S6 : w6.heap.size = w1.heap.size + 1 := by rw [hs6, sd, S4]
    have c2_6 := (cell_of_row w6 g 2 _ _ _ bg6).trans (show _ = some vo from rfl)
    clear bW5 bN5 c1_5 bg4 bN4 c1_4 hb4 HSet HFlat
    refine Canon.region [6] [(⟨g, 2, none⟩, vo)] [(4, 0)] (.hold [0, 1, 2, 3, 5, 4] (.loud 6 (.seg [7, 8, 9, 10] .stop))) (by kernel_rfl) (by kernel_rfl) (by repeat (first | (with_reducible exact Safe.body) | (with_reducible apply Safe.then) | (with_reducible apply Safe.inBlock) | (dsimp +zetaDelta only))) ?_
    simp only [Canon.pick, Canon.wpPlan, List.getElem?_toArray, List.getElem?_cons_zero, List.getElem?_cons_succ]
    have Kd2 : Keeps (fun _ => False) w6 w6.drew := (Keeps.refl _ w6).drew
    have sd2 : w6.drew.heap.size = w6.heap.size := rfl
    have c2_7 : w6.drew.cell? ⟨g, 2, none⟩ = some vo := c2_6
    have bW7 := Kd2.heap bW6 (fun h => h)
    generalize w6.drew = w7 at *
    refine ⟨fun p hp => ?_, ?_⟩
    · rw [List.mem_singleton] at hp; subst hp; exact c2_7
    go_wp2_with (first
      | ((with_reducible refine at_ 55 rfl ?_); go_must (refine step_load rfl 119 _ rfl w1.heap.size 0 (.int .i64 k :: Disk.bytes8 (Disk.pad b)) _ _ _ _ rfl bW7 (by rw [List.drop_zero, List.take_length]) Try.underlying119 rfl (by rw [List.length_cons, HP.out]; exact info_wr) ?_))
      | ((with_reducible refine at_ 56 rfl ?_); go_must (refine step_lit rfl 98 _ 1 rfl [.agg (.int .i64 k :: Disk.bytes8 (Disk.pad b)).toArray] rfl rfl (by decide) 119 _ 65 Try.underlying98 row2_wr (by decide) (by decide) (by intro v hv; rw [List.mem_singleton] at hv; subst hv; show (List.toArray _).size = 65; rw [List.size_toArray, List.length_cons, HP.out]) ?_); intro w8 hb8 hk8 hs8))
    have c2_8 := hk8.cell c2_7 (fun h => h)
    refine ⟨fun p hp => ?_, ?_⟩
    · rw [List.mem_singleton] at hp; subst hp; exact c2_8
    have hb8' : w8.heap[w7.heap.size]? = some (.cells (.int .i64 k :: Disk.bytes8 (Disk.pad b)).toArray 119 (0, 0)) := by simpa [Value.cells] using hb8
    have own8 := (own6.kept Kd2 (fun _ _ h => h)).kept hk8 (fun _ _ h => h)
    have bg8 := hk8.heap (Kd2.heap bg6 (fun h => h)) (fun h => h)
    go_wp2_with (first
      | ((with_reducible refine at_ 57 rfl ?_); go_must (refine step_append rfl _ _ _ rfl 119 _ 65 72 Try.underlying98 row_wr (by simp [Value.cells, HZ.out]) (by decide) vo s.opn.length (Disk.opens s.opn) rfl own8 w7.heap.size 0 1 1 (.int .i64 k :: Disk.bytes8 (Disk.pad b)) rfl (by rw [List.length_cons, HP.out]) (fun j u hu => by rw [cell_of_row w8 _ _ _ _ _ hb8', Nat.zero_add]; simpa using hu) (by intro v hv; rcases List.mem_cons.1 hv with rfl | hv; rfl; exact Disk.bytes8_one _ v hv) (by simp only [maxLen]; omega) (by omega) ?_); intro vo' w9 own9 hk9 _; obtain ⟨A', c', hv', _⟩ := own9.slice; subst hv'; have bg9 := hk9.heap bg8 (fun e => ((own6.2 g e).1.2.1 rfl)))
      | ((with_reducible refine at_store 98 (.tmp 59) (.tmp 57) rfl ?_); go_must (refine step_store1 rfl _ _ _ rfl g 2 (.slice A' (s.opn.length + 1) c') _ _ rfl rfl rfl bg9 (by simp) info_wrs ?_); intro w10 bg10 hk10 hs10))
    refine ⟨by rfl, ⟨fun _ => rfl, trivial⟩, ?_⟩
    go_wp2
    go_ret
    have hF : ¬ (vo.ownBlock = some F) := fun e => (own6.2 F e).1.2.2.1 rfl
    have hN : ¬ (vo.ownBlock = some N) := fun e => (own6.2 N e).1.2.2.2 rfl
    have bF10 := hk10.heap (hk9.heap (hk8.heap (Kd2.heap bF6 (fun h => h)) (fun h => h)) hF) h.ne.1
    have bN10 := hk10.heap (hk9.heap (hk8.heap (Kd2.heap bN6 (fun h => h)) (fun h => h)) hN) h.ne.2.1
    have sz := hk1.size
    have s8 : w8.heap.size = w1.heap.size + 2 := by rw [hs8, sd2, S6]
    refine ⟨by rw [HE.out]; rfl, ⟨.slice A' (s.opn.length + 1) c', ?_⟩, ?_⟩
    · rw [HE.out]
      refine ⟨?_, ?_, bN10, ?_, ⟨.inl h.inS.1, .inl h.inS.2.1, .inl h.inS.2.2⟩, h.ne, ?_⟩
      · rw [bg10]; simp
      · rw [bF10]; simp only [T2.out]
      · have := own9.kept hk10 (fun k hh e => hh.elim (fun hh => hh.1.2.1 e) (fun hh => by subst e; omega))
        rw [Disk.opens_snoc s.opn ((k : Int), Disk.pad b)] at this
        rw [List.length_append]
        refine this.mono (fun k hk hh => ?_)
        rcases hh with hh | hh
        · exact ⟨.inl hh.1.1, hh.1.2⟩
        · exact ⟨.inr (by omega), fun e => by subst e; omega, fun e => by subst e; omega, fun e => by subst e; omega⟩
      · have hok1 := hp1.ok
        have q := h.ok
        refine ⟨?_, ?_, ?_, ?_, ?_, ?_, hok1.left0, hok1.left1⟩
        · simp only [List.length_set, T2.out]; exact q.len
        · simp only [List.length_set]; exact q.pos
        · simp only [List.length_set]; exact q.most
        · simp only [T2.out]; exact q.f64
        · intro x hx
          rcases List.mem_or_eq_of_mem_set hx with hx | rfl
          · exact q.n64 x hx
          · exact Disk.pad_len hl
        · intro p hp
          simp only [List.length_set]
          rcases List.mem_append.1 hp with hp | hp
          · exact q.o64 p hp
          · rw [List.mem_singleton] at hp
            subst hp
            exact ⟨Disk.pad_len hl, by simp, by simpa using hk⟩
    · have kA : Keeps (fun k => S k) w w1 := hk1.mono (fun k _ e => by subst e; exact h.inS.1)
      have kB := kA.trans K6 (fun k hk e => e.elim (fun e => by omega) (fun e => by subst e; exact h.inS.2.2))
      have kC := (kB.trans Kd2 (fun _ _ h => h.elim)).trans hk8 (fun _ _ h => h.elim)
      exact (kC.trans hk9 (fun k hk e => (own6.2 k e).1.1)).trans hk10 (fun k hk e => by subst e; exact h.inS.1)
end
end Go.Proofs.Ytbiohidelhfaiaa
