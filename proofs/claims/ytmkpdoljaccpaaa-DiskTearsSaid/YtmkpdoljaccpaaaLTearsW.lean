/-
  DiskTears: the walk through the code.
-/
import Derived.Test.YtmkpdoljaccpaaaLTears
import Derived.Deep.DeepCutAuto
namespace Go.Proofs.Ytmkpdoljaccpaaa
open Go.RowKit Go.Canon Go.Mem Go.Args
open Go.Disk (St)
set_option linter.unusedVariables false
set_option linter.unusedSimpArgs false
theorem zero_sent : (Try.prog.info? 37).map (fun i => i.zero) = some (some (.agg (List.replicate 8 (.slice none 0 0)).toArray)) := by kernel_rfl
theorem Rd.back {w w' : World} {ok S : Nat → Prop} {v : Value} {n : Nat} {cs : List Value} (hk : Keeps S w w') (hn : ∀ k, ok k → k < w.heap.size ∧ ¬ S k) (h : Rd w' ok v n cs) : Rd w ok v n cs := by
  obtain ⟨A, c, h1, h2, h3, h4⟩ := h
  refine ⟨A, c, h1, h2, h3, h4.imp id ?_⟩
  rintro ⟨b, o, e1, e2, e3⟩
  refine ⟨b, o, e1, e2, fun j u hu => ?_⟩
  rw [← World.cell?_of_block (hk.block b (hn b e2).1 (hn b e2).2)]; exact e3 j u hu
theorem RowsRd.form {w : World} {ok : Nat → Prop} {v : Value} {ls : List (List Int)} (h : RowsRd w ok v ls) (hl : 0 < ls.length) : ∃ b o c, v = .slice (some ⟨b, o, none⟩) ls.length c ∧ ls.length ≤ c ∧ ok b ∧ ∀ (i : Nat) (l : List Int), ls[i]? = some l → ∃ u, w.cell? ⟨b, o + i, none⟩ = some u ∧ Rd w ok u l.length (Disk.bytes8 l) := by
  obtain ⟨vs, h1, h2, h3⟩ := h
  obtain ⟨b, o, c, e, hc, hb, hcell⟩ := h1.at (fun h => by rw [h] at h2; simp at h2; omega)
  refine ⟨b, o, c, e, hc, hb, fun i l hi => ?_⟩
  obtain ⟨u, h4, h5⟩ := h3 i l hi
  exact ⟨u, hcell i u h4, h5⟩
/-- The rows of a slice, whatever comes. -/
def RowAt (w7 : World) (b o : Nat) (ys : List (List Int)) : Prop := ∀ w', Keeps (fun _ => False) w7 w' → ∀ i, i < 8 → ∃ u, w'.cell? ⟨b, o + i, none⟩ = some u ∧ Rd w' (fun _ => True) u (ys.getD i []).length (Disk.bytes8 (ys.getD i []))
theorem RowAt.of {w : World} {ok : Nat → Prop} {b o : Nat} {ys : List (List Int)} (hl : ys.length = 8) (h : ∀ (i : Nat) (l : List Int), ys[i]? = some l → ∃ u, w.cell? ⟨b, o + i, none⟩ = some u ∧ Rd w ok u l.length (Disk.bytes8 l)) : RowAt w b o ys := by
  intro w' hk i hi
  obtain ⟨u, h1, h2⟩ := h i (ys.getD i []) (by rw [List.getD_eq_getElem?_getD, List.getElem?_eq_getElem (by omega)]; rfl)
  exact ⟨u, hk.cell h1 (fun h => h), (h2.kept hk (fun _ _ h => h)).mono (fun _ _ => trivial)⟩
def SentAt (w7 : World) (SB : Nat) (ws : List (Int × List Int)) : Prop := ∀ w', Keeps (fun _ => False) w7 w' → ∀ i, i < 8 → ∃ A vA, (sentOf ws)[i]? = some A ∧ w'.cell? ⟨SB, i, none⟩ = some vA ∧ RowsRd w' (fun _ => True) vA A ∧ A.length ≤ ws.length
theorem SentAt.of {W w : World} {col : Nat → Nat} {g SB : Nat} {vw : Value} {s : St} {was : List (List Int)} {ws : List (Int × List Int)} (h : TearAt W col g SB vw s was (sentOf ws) w) : SentAt w SB ws := by
  intro w' hk i hi
  obtain ⟨vs, h1, h2, h3⟩ := h.sent
  obtain ⟨v, us, h4, h5, h6⟩ := h3 i _ (sentOf_at ws hi)
  refine ⟨_, v, sentOf_at ws hi, hk.cell (by rw [cell_of_row _ _ _ _ _ _ h2]; simpa using h4) (fun h => h), ⟨us, (h5.rd.kept hk (fun _ _ h => h)).mono (fun _ _ => trivial), by have := h5.len; omega, fun j l hj => ?_⟩, by rw [List.length_map]; exact List.length_filter_le _ _⟩
  obtain ⟨u, h7, h8⟩ := h6 j l hj
  exact ⟨u, h7, (h8.kept hk (fun _ _ h => h)).mono (fun _ _ => trivial)⟩
theorem info_bytess : (Try.prog.info? 29).map (·.size) = some 1 := by kernel_rfl
theorem tear_start {W w1 w2 w3 w9 : World} {g : Nat} {vw : Value} {s : St} (z1 : W.heap.size ≤ w1.heap.size) (z2 : w1.heap.size ≤ w2.heap.size) (z3 : w2.heap.size ≤ w3.heap.size) (hk1 : Keeps (fun _ => False) W w1) (hk2 : Keeps (fun k => W.heap.size ≤ k ∧ k < w1.heap.size) w1 w2)
    (hd2 : DIs w2 (fun k => (W.heap.size ≤ k ∧ k < w1.heap.size) ∨ w1.heap.size ≤ k) g s) (hk3 : Keeps (fun _ => False) w2 w3) (hr3 : RowsRd w3 (fun k => w2.heap.size ≤ k ∧ k < w3.heap.size) vw (rows s 8))
    (hb9 : w9.heap[w3.heap.size]? = some (.cells (List.replicate 8 (.slice none 0 0)).toArray 37 (0, 0))) (hk9 : Keeps (fun _ => False) w3 w9) (hs9 : w9.heap.size = w3.heap.size + 1) :
    TearAt W (fun k => if k < w2.heap.size then 0 else if k < w3.heap.size then 1 else 3) g w3.heap.size vw s (rows s 8) (sentOf []) w9 := by
  refine ⟨((hk1.trans hk2 (fun k h1 h2 => by omega)).trans hk3 (fun _ _ h => h)).trans hk9 (fun _ _ h => h), ((hd2.bound.kept hk3 (fun _ _ h => h)).kept hk9 (fun _ _ h => h)).wide (fun k h => ⟨by simp [h.2], by omega, by omega⟩), (hr3.kept hk9 (fun _ _ h => h)).mono (fun k h => ⟨by have : ¬ k < w2.heap.size := (by omega); simp [this, h.2], by omega, by omega⟩), ⟨by have : ¬ w3.heap.size < w2.heap.size := (by omega); simp [this], by omega, by omega⟩, _, by simp, hb9, fun i A hA => ?_⟩
  have h8 : i < 8 := by have := (List.getElem?_eq_some_iff.1 hA).1; rwa [sentOf_len] at this
  rw [sentOf_at _ h8] at hA
  obtain rfl := Option.some.inj hA
  exact ⟨.slice none 0 0, [], by rw [List.getElem?_replicate, if_pos h8], OwnRow.nil _ _ _ _, fun j l hl => by simp at hl⟩
theorem tear_data {W wr w7 w8 : World} {col : Nat → Nat} {v7 v8 : Value} {b : List Int} (hs : W.heap.size ≤ wr.heap.size) (hk7 : Keeps (fun _ => False) wr w7) (hO7 : OwnRow w7 (fun k => wr.heap.size ≤ k) 5 1 v7 b.length (Disk.bytes8 b)) (hO8 : OwnRow w8 (fun k => wr.heap.size ≤ k ∨ w7.heap.size ≤ k) 5 1 v8 (b.length + 64) (Disk.bytes8 b ++ List.replicate 64 (.int .u8 0))) (hb : b.length ≤ 64) :
    ∀ A c, v8 = .slice A (b.length + 64) c → Rd w8 (At W w8 (recol col wr.heap.size 2) 2) (.slice A 64 c) (Disk.pad b).length (Disk.bytes8 (Disk.pad b)) := by
  rintro A c rfl
  have h := hO8.rd.lt
  have hl := hO8.len
  have := Rd.front h 64 1 (by omega) hl
  rw [Nat.mul_one, pad_take hb] at this
  rw [pad_64 hb]
  have h7 := hk7.size
  exact this.mono (fun k hk => At.new hs (by rcases hk.1 with h | h; exact h; omega) hk.2)
set_option maxHeartbeats 12800000 in
set_option maxRecDepth 100000 in
theorem tears_in (W : World) (v0 v1 v2 : Value) (l more : List Do9) (ks : List Bool) (hD : Dos W v0 l) (hM : Dos W v1 more) (hK : Rd W (fun k => k < W.heap.size) v2 ks.length (bools ks)) (lk : ks.length ≤ maxLen) : Calls Try.prog 4 #[v0, v1, v2] W (Rets (Yes W)) := by
  have HD := Lib.hid hD
  have HM := Lib.hid hM
  have HK := Lib.hid hK
  have lk' : (ks.take 300).length ≤ 300 := by rw [List.length_take]; omega
  have hI := run_inv fresh_inv (l.take 150)
  have hf := run_few (fresh 8) (l.take 150)
  have hf2 : (l.take 150).length ≤ 150 := by rw [List.length_take]; omega
  have hf0 : (fresh 8).opn.length = 0 := rfl
  have few : (run (fresh 8) (l.take 150)).opn.length ≤ 150 := by omega
  clear hD hM hK hf hf2 hf0
  generalize hs : run (fresh 8) (l.take 150) = s0 at *
  have HS := Lib.hid hs
  clear hs
  obtain ⟨s, hs⟩ : ∃ s, s = s0.sync.2 := ⟨_, rfl⟩
  have HSy := Lib.hid (show s0.sync.1 = 0 by rw [hI.sync])
  have HI := Lib.hid (show Inv s by rw [hs]; exact hI.sync_inv)
  have HOp := Lib.hid (show s.opn = [] by rw [hs, hI.sync])
  have HS2 := Lib.hid hs
  clear hs hI
  go_enter Try.func4, Try.ntmps4
  go_wp2_with (first
    | ((with_reducible refine at_ 9 rfl ?_); go_must (refine step_alloc rfl 37 rfl _ _ zero_sent rfl ?_); intro w9 hb9 hk9 hs9)
    | (go_at_call 18; refine Rets.use (kept_c (((HK.out.kept hk1 (fun _ _ h => h)).kept hk2 (fun k h1 h2 => by omega)).kept hk3 (fun _ _ h => h))) ?_; rintro v5 w5 ⟨hr5, rfl⟩)
    | (go_at_call 21; refine Rets.use (few_c HM.out) ?_; rintro v4 w4 ⟨rfl, hl⟩)
    | (go_at_call 16; refine Rets.use (all_c hd2.bound (fun k h => h.2)) ?_; rintro vw w3 ⟨hk3, hr3⟩; have z3 := hk3.size)
    | (go_at_call 14; refine Rets.use (dSync_c hd1 (by omega)) ?_; rintro v w2 ⟨rfl, hd2, hk2⟩; have z2 := hk2.size; rw [HSy.out]; rw [← HS2.out] at hd2)
    | (go_at_call 13; refine Rets.use (made09_c HD.out) ?_; rintro v w1 ⟨hk1, g, rfl, hd1⟩; have z1 := hk1.size; rw [HS.out] at hd1))
  have hT := tear_start z1 z2 z3 hk1 hk2 hd2 hk3 hr3.rd hb9 hk9 hs9
  have HR5 := Lib.hid (Rd.back hT.keep (fun k h => ⟨h, fun h => h⟩) (hr5.kept hk9 (fun _ _ h => h)))
  obtain ⟨col0, hT⟩ : ∃ col, TearAt W col g w3.heap.size vw s (rows s 8) (sentOf []) w9 := ⟨_, hT⟩
  clear hk1 hk2 hk3 hd1 hd2 hr3 hr5 hb9 hk9 hs9 z1 z2 z3 HD HM HK
  generalize w3.heap.size = SB at *
  obtain ⟨B, c, rfl, hc1, hc2, _, hin⟩ := id hl
  have HIn := Lib.hid hin
  have hm := Lib.hid (show (more.take 150).length ≤ 150 by rw [List.length_take]; omega)
  generalize more.take 150 = m at *
  have hm := hm.out
  have HT := Lib.hid hT
  clear hl hin hT
  go_loopw [10, 11] (fun n i wr => ∃ (k : Nat) (col : Nat → Nat), k ≤ m.length ∧ i = .int .i64 k ∧ n = .int .i64 (wsOf (m.take k)).length ∧ TearAt W col g SB vw (wrote s (wsOf (m.take k))) (rows s 8) (sentOf (wsOf (m.take k))) wr) (fun _ i _ => m.length - (intOf i).toNat)
  case atStart => exact ⟨0, col0, Nat.zero_le _, rfl, rfl, by rw [List.take_zero]; show TearAt W col0 g SB vw (wrote s []) _ (sentOf []) w9; rw [wrote_nil HOp.out]; exact HT.out⟩
  case round =>
    obtain ⟨k, col, hk, rfl, rfl, hT⟩ := hrel
    have HTk := Lib.hid hT
    clear HT
    by_cases hlt : k < m.length
    · obtain ⟨b, o, e, hb, vB, vK, c0, c1, c2, _, rB, lB, _⟩ := HIn.out k _ (List.getElem?_eq_getElem hlt)
      cases e
      have hws := wsOf_len (m.take k)
      rw [List.length_take] at hws
      have hinv := wrote_inv HI.out HOp.out (wsOf (m.take k)) (wsOf_in _)
      have HWt := Lib.hid (wsOf_take m k _ (List.getElem?_eq_getElem hlt))
      generalize wsOf (m.take k) = ws at *
      generalize m[k] = d at *
      have hK := hT.keep
      have c0 := hK.cell c0 (fun h => h)
      have c1 := hK.cell c1 (fun h => h)
      have c2 := hK.cell c2 (fun h => h)
      have HRB := Lib.hid (rB.kept hK (fun _ _ h => h))
      have hs1 := hK.size
      clear rB
      by_cases k0 : d.kind = 0
      · rw [k0] at c0
        obtain ⟨i, hi⟩ : ∃ i : Nat, least d.at_ 0 7 = i := ⟨(least d.at_ 0 7).toNat, by have := least_in d.at_; omega⟩
        have hi8 : i < 8 := by have := least_in d.at_; omega
        have HWt := Lib.hid (show wsOf (m.take (k + 1)) = ws ++ [((i : Int), Disk.pad (d.b.take 64))] by rw [HWt.out, if_pos k0, hi])
        have HLe := Lib.hid hi
        have lt : (d.b.take 64).length ≤ 64 := by rw [List.length_take]; omega
        have lt2 : (d.b.take 64).length ≤ 140737488355328 := by omega
        have HWr := Lib.hid (wrote_write hinv i (d.b.take 64) (by omega) (by omega) lt)
        have HP64 := Lib.hid (pad_64 lt)
        clear hi k0
        generalize hb0 : d.b.take 64 = b0 at *
        have HB0 := Lib.hid hb0
        clear hb0
        go_wp2_with (first
          | (go_at_call 25; go_loud (refine Rets.use (dWrite_c hT8.disk i _ (Disk.pad b0) (hR8 _ _ rfl) (fun k h => h.ne (by decide)) (by rw [HP64.out]; decide) (by show ws.length ≤ _; omega)) ?_; intro v9 w9 hp9; have hT9p := hT8.post hp9; have hU9 := ((hR8 _ _ rfl).kept hp9.2.2 (fun k h => h.ne (by decide))).mono (fun k h => At.old (d := 0) h hp9.2.2.size); obtain ⟨rfl, hT9⟩ := hT9p; rw [HWr.out]; rw [HWr.out] at hT9))
          | ((with_reducible refine at_ 60 rfl ?_); go_must (refine step_append_zeros rfl _ _ _ _ 9 rfl 5 _ Try.underlying38 Try.underlying3 Try.underlying9 row_byte _ _ _ rfl hO7 64 rfl (by decide) (by omega) ?_); intro v8 w8 hO8 hk8; have kk : Keeps (fun _ => False) wr w8 := hk7.trans hk8 (fun k h1 h2 => by have := hO7.2 k h2; omega); have hT8 := hT.kept kk 2; have hR8 := tear_data (col := col) hs1 hk7 hO7 hO8 lt; obtain ⟨gd, cap, cur, rfl, _, _, hcap1, hcap2, _, _⟩ := hO8.form (by omega))
          | (go_at_call 23; refine Rets.use (copy_c _ _ hC lt2) ?_; rintro v7 w7 ⟨hO7, hk7⟩)
          | (go_at_call 24; refine Rets.use (cut_c vB d.b HRB.out 64) ?_; rintro vC w6 ⟨hC, rfl⟩; rw [HB0.out] at hC)
          | (go_at_call 22; refine Rets.use (least_c d.at_ 0 7 _) ?_; rintro v1 w6 ⟨rfl, rfl⟩; rw [HLe.out]))
        clear hT8 hR8 hO7 hO8 hk7 hk8 hC kk hp9
        have Kd : Keeps (fun _ => False) w9 w9.drew := (Keeps.refl _ w9).drew
        have hT := hT9.kept Kd 2
        have hU9 := hU9.kept Kd (fun _ _ h => h)
        have hU9 := hU9.mono (fun k h => At.old (d := 2) h Kd.size)
        have HWt := Lib.hid HWt.out
        obtain ⟨vs, hvs, hb9, hS9⟩ := hT.sent
        obtain ⟨vi, us, hvi, hO9, hU9j⟩ := hS9 i _ (sentOf_at ws hi8)
        have hAl : ((ws.filter fun p => p.1.toNat == i).map (·.2)).length ≤ ws.length := by rw [List.length_map]; exact List.length_filter_le _ _
        have hAt := sentOf_at ws hi8
        generalize ((ws.filter fun p => p.1.toNat == i).map (·.2)) = A at *
        refine Canon.region [6] [(⟨SB, i, none⟩, vi)] [(3, 0)] (.hold [0, 1, 2, 4, 5, 3] (.loud 6 (.seg [7, 8, 9] .stop))) (by kernel_rfl) (by kernel_rfl) (by repeat (first | (with_reducible exact Safe.body) | (with_reducible apply Safe.then) | (with_reducible apply Safe.inBlock) | (dsimp +zetaDelta only))) ?_
        simp only [Canon.pick, Canon.wpPlan, List.getElem?_toArray, List.getElem?_cons_zero, List.getElem?_cons_succ]
        generalize w9.drew = w10 at *
        have hcell : w10.cell? ⟨SB, i, none⟩ = some vi := by rw [cell_of_row _ _ _ _ _ _ hb9]; simpa using hvi
        refine ⟨fun p hp => by rw [List.mem_singleton] at hp; subst hp; exact hcell, ?_⟩
        have hsb := hT.sb
        have hO9v := hO9.2
        go_wp2_with (first
          | ((with_reducible refine at_ 73 rfl ?_); go_must (refine step_lit rfl 29 _ 1 rfl [.slice (some ⟨gd, 0, none⟩) 64 cap] rfl rfl (by decide) 38 _ 1 Try.underlying29 row2_bytes (by decide) (by decide) (by intro v hv; rw [List.mem_singleton] at hv; subst hv; rfl) ?_); intro w11 hb11 hk11 hs11))
        refine ⟨fun p hp => by rw [List.mem_singleton] at hp; subst hp; exact hk11.cell hcell (fun h => h), ?_⟩
        have hO11 := hO9.kept hk11 (fun _ _ h => h)
        have hsb3 : ¬ vi.ownBlock = some SB := fun h => (hsb.ne (d := 4 + i) (by omega)) (hO9v _ h)
        have hsv : (vs.set i vi).length = 8 := by rw [List.length_set]; exact hvs
        go_wp2_with (first
          | ((with_reducible refine at_store 29 (.tmp 75) (.tmp 74) rfl ?_); go_must (refine step_store1 rfl _ _ _ rfl SB i (.slice A12 (A.length + 1) c12) _ _ rfl rfl rfl hb12 (by rw [hvs]; exact hi8) info_bytess ?_); intro w13 hb13 hk13 hs13)
          | ((with_reducible refine at_ 74 rfl ?_); go_must (refine step_append_rd (ok := fun k => vi.ownBlock = some k) (ok2 := fun k => w10.heap.size ≤ k) rfl _ _ _ rfl 38 _ 1 24 Try.underlying29 row_bytes rfl (by decide) vi A.length us rfl (own_self hO11) _ 1 [.slice (some ⟨gd, 0, none⟩) 64 cap] rfl (lit_rd rfl hb11 (Nat.le_refl _)) rfl (by intro x hx; rw [List.mem_singleton] at hx; subst hx; rfl) (by simp only [maxLen]; omega) (by omega) ?_); intro v12 w12 hO12 hk12; have hb12 := hk12.heap (hk11.heap hb9 (fun h => h)) hsb3; obtain ⟨A12, c12, rfl, _⟩ := hO12.slice))
        refine ⟨by rfl, ⟨fun _ => rfl, trivial⟩, ?_⟩
        go_wp2
        go_roundw
        case rel =>
          obtain ⟨colp, hp⟩ : ∃ cp, TearAt W cp g SB vw (wrote s (ws ++ [((i : Int), Disk.pad b0)])) (rows s 8) ((sentOf ws).set i (A ++ [Disk.pad b0])) w13 := ⟨_, hT.push hvs hb9 hS9 hAt (sentOf_len _) hvi hO9 hU9j hU9 hk11 hO12 hk12 hb13 hk13⟩
          exact ⟨k + 1, colp, by omega, by go_num, by rw [HWt.out, List.length_append]; go_num, by rw [HWt.out, sentOf_snoc ws _ (by simp) hAt]; exact hp⟩
        case measure => simp [intOf]; omega
      · have hb0 : (d.kind == 0) = false := by simpa using k0
        go_wp2
        go_roundw
        case rel => exact ⟨k + 1, col, by omega, by go_num, by rw [HWt.out, if_neg k0, List.append_nil], by rw [HWt.out, if_neg k0, List.append_nil]; exact HTk.out⟩
        case measure => simp [intOf]; omega
    · obtain rfl : k = m.length := by omega
      rw [List.take_length] at hT ⊢
      have hR5 := HR5.out.kept hT.keep (fun _ _ h => h)
      have HLaw := Lib.hid (fun kp i (hi : i < 8) A hA => tears_law HI.out HOp.out m kp hi (A := A) hA (wrote_inv HI.out HOp.out (wsOf m) (wsOf_in m)))
      have HInv := Lib.hid (wrote_inv HI.out HOp.out (wsOf m) (wsOf_in m))
      have hwl := wsOf_len m
      have HT := Lib.hid hT
      clear HTk hT
      generalize wsOf m = ws at *
      generalize ks.take 300 = kp at *
      have HLaw := Lib.hid (fun i (hi : i < 8) A hA => HLaw.out kp i hi A hA)
      obtain ⟨A5, c5, rfl, hc5, _⟩ := hR5.slice
      have HR5 := Lib.hid hR5
      clear hR5
      by_cases hnk : ws.length ≤ kp.length
      · have HB := Lib.hid (show fulls kp ws.length 0 = true by simp [fulls, hnk])
        go_wp2
        go_loopw [14, 15] (fun full i w2 => ∃ j : Nat, j ≤ ws.length ∧ j ≤ kp.length ∧ full = .bool (fulls kp ws.length j) ∧ i = .int .i64 j ∧ w2 = wr) (fun _ i _ => ws.length - (intOf i).toNat)
        case atStart => exact ⟨0, Nat.zero_le _, Nat.zero_le _, by rw [HB.out], rfl, rfl⟩
        case round =>
          obtain ⟨j, hj, hj', rfl, rfl, rfl⟩ := hrel
          clear HB
          have HF := Lib.hid (fulls_succ kp ws.length j)
          generalize hF : fulls kp ws.length j = F at *
          by_cases h1 : j < ws.length
          · by_cases h2 : j < kp.length
            · have hne : bools kp ≠ [] := fun h => by
                have hl : (bools kp).length = kp.length := by unfold bools; rw [List.length_map]
                rw [h] at hl; change 0 = _ at hl; omega
              obtain ⟨b5, o5, c5', e5, _, _, hcell5⟩ := HR5.out.at hne
              cases e5
              have c5a := hcell5 j (.bool (kp.getD j false)) (by simp [bools, h2])
              generalize kp.getD j false = x at *
              clear hF
              cases F
              · go_wp2
                go_roundw
                case rel => exact ⟨j + 1, by omega, by omega, by rw [HF.out]; rfl, by go_num, by trivial⟩
                case measure => simp [intOf]; omega
              · go_wp2
                go_roundw
                case rel => exact ⟨j + 1, by omega, by omega, by rw [HF.out]; rfl, by go_num, by trivial⟩
                case measure => simp [intOf]; omega
            · have hmin : min ws.length kp.length = j := by omega
              (exfalso; omega)
          · have hmin : min ws.length kp.length = j := by omega
            have HLaw := Lib.hid (show ∀ i, i < 8 → ∀ A, (sentOf ws)[i]? = some A → oks F ((rows ((wrote s ws).crash kp) 8).getD i []) ((rows s 8).getD i []) A A.length = true by have h := HLaw.out; rw [hmin, hF] at h; exact h)
            have hT := HT.out
            have HT := Lib.hid hT
            have fewW : (wrote s ws).opn.length ≤ 1000000 := by show ws.length ≤ _; omega
            have HOn := Lib.hid (show ((wrote s ws).opn.length : Int) = (ws.length : Int) from rfl)
            have HCo := Lib.hid (show ((wrote s ws).crash kp).opn.length = 0 from rfl)
            have lkp : kp.length ≤ 9223372036854775807 := by omega
            clear hF hmin HF
            go_wp2_with (first
              | (go_at_call 16; refine Rets.use (all_c hT6.disk (fun k h => h.2.2)) ?_; rintro vn w7 ⟨hk7, hr7⟩; have hT7 := hT6.kept hk7 5; have hN7 := hr7.rd)
              | (go_at_call 15; refine Rets.use (dOpen_c hT6.disk) ?_; rintro v9 w6b ⟨rfl, rfl⟩; rw [HCo.out])
              | (go_at_call 17; refine Rets.use (dCrash_c hT.disk fewW _ kp HR5.out (fun k h1 h2 => by have := h2.2.1; omega) lkp) ?_; intro v6 w6 hp6; obtain ⟨rfl, hT6⟩ := hT.post hp6)
              | (go_at_call 15; refine Rets.use (dOpen_c hT.disk) ?_; rintro v9 w5b ⟨rfl, rfl⟩; rw [HOn.out]))
            clear hT HT hp6 HCo HOn hT6 HR5
            have HEnd := Lib.hid hT7.keep
            have hcl : (rows ((wrote s ws).crash kp) 8).length = 8 := rows_len _ _
            have HBig := Lib.hid (rows_big (HInv.out.crash_inv kp))
            generalize rows ((wrote s ws).crash kp) 8 = xs at *
            have hwl8 : (rows s 8).length = 8 := rows_len _ _
            obtain ⟨bw, ow, cw, rfl, hcw, _, hrw⟩ := hT7.was.form (by omega)
            obtain ⟨bn, on, cn, rfl, hcn, _, hrn⟩ := hN7.form (by omega)
            rw [hwl8] at hcw
            rw [hcl] at hcn
            rw [hwl8, hcl]
            generalize rows s 8 = ys at *
            have HW := Lib.hid (RowAt.of hwl8 hrw)
            have HN := Lib.hid (RowAt.of hcl hrn)
            have HS := Lib.hid (SentAt.of hT7)
            clear hT7 hN7 hrw hrn hr7
            go_loopw [17] (fun at_ w8 => ∃ i : Nat, i ≤ 8 ∧ at_ = .int .i64 i ∧ Keeps (fun _ => False) w7 w8) (fun at_ _ => 8 - (intOf at_).toNat)
            case atStart => exact ⟨0, Nat.zero_le _, rfl, Keeps.refl _ _⟩
            case round =>
              obtain ⟨i, hi, rfl, hK8⟩ := hrel
              by_cases hi8 : i < 8
              · obtain ⟨un, cn8, rn8⟩ := HN.out wr hK8 i hi8
                obtain ⟨uw, cw8, rw8⟩ := HW.out wr hK8 i hi8
                obtain ⟨A, vA, hA, cA8, rA8, lA⟩ := HS.out wr hK8 i hi8
                have HRA := Lib.hid rA8
                obtain ⟨vsA, rA1, rA2, rA3⟩ := rA8
                obtain ⟨ZA, zc, rfl, hzc, hzn⟩ := rA1.slice
                have HAl := Lib.hid (HLaw.out i hi8 A hA)
                have lxn : (xs.getD i []).length ≤ 9223372036854775807 := by
                  have := HBig.out (xs.getD i []) (by rw [List.getD_eq_getElem?_getD, List.getElem?_eq_getElem (by omega)]; exact List.getElem_mem _)
                  omega
                clear hA
                have HSu := Lib.hid (oks_succ F (xs.getD i []) (ys.getD i []) A)
                have HO0 := Lib.hid (show oks F (xs.getD i []) (ys.getD i []) A 0 = (decide (xs.getD i [] = ys.getD i []) && !(F && decide (0 < A.length))) by simp [oks])
                generalize oks F (xs.getD i []) (ys.getD i []) A = O at *
                generalize xs.getD i [] = x at *
                generalize ys.getD i [] = y at *
                have HRn := Lib.hid rn8
                have HRw := Lib.hid rw8
                have HK8 := Lib.hid hK8
                clear rn8 rw8 rA1 rA2 rA3 hK8
                go_upto_region 29 with (fail)
                go_cut [18] (fun ok wc => ok = .bool (O 0) ∧ Keeps (fun _ => False) wr wc)
                case first =>
                  refine Canon.row [0, 1, 2, 4, 5, 6, 3, 7, 8, 9, 10, 11, 12, 13, 14, 15, 16, 17, 18, 19, 20] (by kernel_rfl) (by kernel_rfl) (by repeat (first | (with_reducible exact Safe.body) | (with_reducible apply Safe.then) | (with_reducible apply Safe.inBlock) | (dsimp +zetaDelta only))) ?_
                  simp only [Canon.pick, Canon.wpPlan, List.getElem?_toArray, List.getElem?_cons_zero, List.getElem?_cons_succ]
                  have KD : Keeps (fun _ => False) wr wr.drew := (Keeps.refl _ wr).drew
                  have cn8 := KD.cell cn8 (fun h => h)
                  have cw8 := KD.cell cw8 (fun h => h)
                  have cA8 := KD.cell cA8 (fun h => h)
                  have HC := Lib.hid (fun hl => same_c un uw x y (HRn.out.kept KD (fun _ _ h => h)) (HRw.out.kept KD (fun _ _ h => h)) hl)
                  generalize wr.drew = wd at *
                  generalize hxy : decide (x = y) = e at *
                  have HXY := Lib.hid hxy
                  clear hxy
                  by_cases hA0 : 0 < A.length
                  · have HO1 := Lib.hid (show O 0 = (e && !F) by rw [HO0.out]; simp [hA0])
                    clear HO0
                    cases e
                    · go_wp2_with (go_at_call 26; refine Rets.use (HC.out lxn) ?_; rintro v9 w9 ⟨rfl, hk9⟩; have cA9 := hk9.cell cA8 (fun h => h); have hk9 := KD.trans hk9 (fun _ _ h => h))
                      refine ⟨by rfl, trivial, ?_⟩
                      go_wp2
                      go_meet
                      exact ⟨by rw [HO1.out] <;> rfl, hk9⟩
                    · cases F
                      · go_wp2_with (go_at_call 26; refine Rets.use (HC.out lxn) ?_; rintro v9 w9 ⟨rfl, hk9⟩; have cA9 := hk9.cell cA8 (fun h => h); have hk9 := KD.trans hk9 (fun _ _ h => h))
                        refine ⟨by rfl, trivial, ?_⟩
                        go_wp2
                        go_meet
                        exact ⟨by rw [HO1.out] <;> rfl, hk9⟩
                      · go_wp2_with (go_at_call 26; refine Rets.use (HC.out lxn) ?_; rintro v9 w9 ⟨rfl, hk9⟩; have cA9 := hk9.cell cA8 (fun h => h); have hk9 := KD.trans hk9 (fun _ _ h => h))
                        refine ⟨by rfl, trivial, ?_⟩
                        go_wp2
                        go_meet
                        exact ⟨by rw [HO1.out] <;> rfl, hk9⟩
                  · have HO1 := Lib.hid (show O 0 = e by rw [HO0.out]; simp [hA0])
                    clear HO0
                    cases e
                    · go_wp2_with (go_at_call 26; refine Rets.use (HC.out lxn) ?_; rintro v9 w9 ⟨rfl, hk9⟩; have cA9 := hk9.cell cA8 (fun h => h); have hk9 := KD.trans hk9 (fun _ _ h => h))
                      refine ⟨by rfl, trivial, ?_⟩
                      go_wp2
                      go_meet
                      exact ⟨by rw [HO1.out] <;> rfl, hk9⟩
                    · cases F
                      · go_wp2_with (go_at_call 26; refine Rets.use (HC.out lxn) ?_; rintro v9 w9 ⟨rfl, hk9⟩; have cA9 := hk9.cell cA8 (fun h => h); have hk9 := KD.trans hk9 (fun _ _ h => h))
                        refine ⟨by rfl, trivial, ?_⟩
                        go_wp2
                        go_meet
                        exact ⟨by rw [HO1.out] <;> rfl, hk9⟩
                      · go_wp2_with (go_at_call 26; refine Rets.use (HC.out lxn) ?_; rintro v9 w9 ⟨rfl, hk9⟩; have cA9 := hk9.cell cA8 (fun h => h); have hk9 := KD.trans hk9 (fun _ _ h => h))
                        refine ⟨by rfl, trivial, ?_⟩
                        go_wp2
                        go_meet
                        exact ⟨by rw [HO1.out] <;> rfl, hk9⟩
                case rest =>
                obtain ⟨rfl, hkc⟩ := hcut
                clear HO0
                have HKc := Lib.hid hkc
                clear hkc
                go_wp2
                go_loopw [18, 19] (fun ok i w10 => ∃ j : Nat, j ≤ A.length ∧ ok = .bool (O j) ∧ i = .int .i64 j ∧ Keeps (fun _ => False) wc w10) (fun _ i _ => A.length - (intOf i).toNat)
                case atStart => exact ⟨0, Nat.zero_le _, rfl, rfl, Keeps.refl _ _⟩
                case round =>
                  obtain ⟨j, hj, rfl, rfl, hK10⟩ := hrel
                  have hKr := HKc.out.trans hK10 (fun _ _ h => h)
                  have cA10 := hKr.cell cA8 (fun h => h)
                  by_cases hjA : j < A.length
                  · have HSj := Lib.hid (HSu.out j)
                    obtain ⟨vsj, hA1, hA2, hA3⟩ := HRA.out
                    obtain ⟨uj, huj, rj⟩ := hA3 j (A.getD j []) (by rw [List.getD_eq_getElem?_getD, List.getElem?_eq_getElem hjA]; rfl)
                    obtain ⟨bA, oA, cA, eA, _, _, hcellA⟩ := hA1.at (fun h => by rw [h] at huj; cases huj)
                    cases eA
                    have cj := hKr.cell (hcellA j uj huj) (fun h => h)
                    have HRj := Lib.hid (rj.kept hKr (fun _ _ h => h))
                    have cn10 := hKr.cell cn8 (fun h => h)
                    have HRn10 := Lib.hid (HRn.out.kept hKr (fun _ _ h => h))
                    have HK10 := Lib.hid hK10
                    clear hA1 hA2 hA3 huj rj hcellA hKr hK10 cA8 cn8 cw8
                    go_wp2
                    refine Canon.row [0, 1, 2, 3, 4, 6, 7, 9, 5, 8, 10, 11, 12, 13, 14, 15, 16, 17, 18, 19, 20, 21, 22, 23, 24, 25, 26, 27] (by kernel_rfl) (by kernel_rfl) (by repeat (first | (with_reducible exact Safe.body) | (with_reducible apply Safe.then) | (with_reducible apply Safe.inBlock) | (dsimp +zetaDelta only))) ?_
                    simp only [Canon.pick, Canon.wpPlan, List.getElem?_toArray, List.getElem?_cons_zero, List.getElem?_cons_succ]
                    have KD : Keeps (fun _ => False) wr wr.drew := (Keeps.refl _ wr).drew
                    have cn8 := KD.cell cn10 (fun h => h)
                    have cj8 := KD.cell cj (fun h => h)
                    have cA8 := KD.cell cA10 (fun h => h)
                    have HC := Lib.hid (fun hl => same_c un uj x (A.getD j []) (HRn10.out.kept KD (fun _ _ h => h)) (HRj.out.kept KD (fun _ _ h => h)) hl)
                    have HKd := Lib.hid (HK10.out.trans KD (fun _ _ h => h))
                    generalize A.getD j [] = z at *
                    clear cn10 cj cA10 HRn10 HRj HK10 KD
                    generalize wr.drew = wd at *
                    generalize decide (x = z) = e at *
                    generalize hoj : O j = o at *
                    clear hoj
                    cases o
                    · have HSj := Lib.hid (show O (j + 1) = (e && (!F || decide (j = A.length - 1))) by rw [HSj.out]; rfl)
                      cases e
                      · have HSk := Lib.hid (show O (j + 1) = false by rw [HSj.out]; rfl)
                        go_wp2_with (go_at_call 26; refine Rets.use (HC.out lxn) ?_; rintro v9 w9 ⟨rfl, hk9⟩; have cA9 := hk9.cell cA8 (fun h => h))
                        refine ⟨by rfl, trivial, ?_⟩
                        go_wp2
                        go_roundw
                        case rel => exact ⟨j + 1, by omega, by rw [HSk.out], by go_num, HKd.out.trans hk9 (fun _ _ h => h)⟩
                        case measure => simp [intOf]; omega
                      · cases F
                        · have HSk := Lib.hid (show O (j + 1) = true by rw [HSj.out]; rfl)
                          go_wp2_with (go_at_call 26; refine Rets.use (HC.out lxn) ?_; rintro v9 w9 ⟨rfl, hk9⟩; have cA9 := hk9.cell cA8 (fun h => h))
                          refine ⟨by rfl, trivial, ?_⟩
                          go_wp2
                          go_roundw
                          case rel => exact ⟨j + 1, by omega, by rw [HSk.out], by go_num, HKd.out.trans hk9 (fun _ _ h => h)⟩
                          case measure => simp [intOf]; omega
                        · by_cases hjl : j = A.length - 1
                          · have HSk := Lib.hid (show O (j + 1) = true by rw [HSj.out]; simp [hjl])
                            have hjb : ((j : Int) == (A.length : Int) - 1) = true := by simp; omega
                            clear hjl
                            go_wp2_with (go_at_call 26; refine Rets.use (HC.out lxn) ?_; rintro v9 w9 ⟨rfl, hk9⟩; have cA9 := hk9.cell cA8 (fun h => h))
                            refine ⟨by rfl, trivial, ?_⟩
                            go_wp2
                            go_roundw
                            case rel => exact ⟨j + 1, by omega, by rw [HSk.out], by go_num, HKd.out.trans hk9 (fun _ _ h => h)⟩
                            case measure => simp [intOf]; omega
                          · have HSk := Lib.hid (show O (j + 1) = false by rw [HSj.out]; simp [hjl])
                            have hjb : ((j : Int) == (A.length : Int) - 1) = false := by simp; omega
                            clear hjl
                            go_wp2_with (go_at_call 26; refine Rets.use (HC.out lxn) ?_; rintro v9 w9 ⟨rfl, hk9⟩; have cA9 := hk9.cell cA8 (fun h => h))
                            refine ⟨by rfl, trivial, ?_⟩
                            go_wp2
                            go_roundw
                            case rel => exact ⟨j + 1, by omega, by rw [HSk.out], by go_num, HKd.out.trans hk9 (fun _ _ h => h)⟩
                            case measure => simp [intOf]; omega
                    · have HSk := Lib.hid (show O (j + 1) = true by rw [HSj.out]; rfl)
                      go_wp2
                      refine ⟨by rfl, trivial, ?_⟩
                      go_wp2
                      go_roundw
                      case rel => exact ⟨j + 1, by omega, by rw [HSk.out], by go_num, HKd.out⟩
                      case measure => simp [intOf]; omega
                  · obtain rfl : j = A.length := by omega
                    have HK10 := Lib.hid (HK8.out.trans hKr (fun _ _ h => h))
                    rw [HAl.out]
                    clear hKr hK10 cA8 cn8 cw8
                    go_wp2
                    go_roundw
                    case rel => exact ⟨i + 1, by omega, by go_num, HK10.out⟩
                    case measure => simp [intOf]; omega
              · obtain rfl : i = 8 := by omega
                go_wp2_with (go_at_call 20; refine Rets.use (lives09_c _) ?_; rintro v w18 ⟨rfl, hk18⟩)
                go_ret
                exact ⟨rfl, (HEnd.out.trans hK8 (fun _ _ h => h)).trans hk18 (fun _ _ h => h)⟩
      · have HB := Lib.hid (show fulls kp ws.length 0 = false by simp [fulls, hnk])
        go_wp2
        go_loopw [14, 15] (fun full i w2 => ∃ j : Nat, j ≤ ws.length ∧ j ≤ kp.length ∧ full = .bool (fulls kp ws.length j) ∧ i = .int .i64 j ∧ w2 = wr) (fun _ i _ => ws.length - (intOf i).toNat)
        case atStart => exact ⟨0, Nat.zero_le _, Nat.zero_le _, by rw [HB.out], rfl, rfl⟩
        case round =>
          obtain ⟨j, hj, hj', rfl, rfl, rfl⟩ := hrel
          clear HB
          have HF := Lib.hid (fulls_succ kp ws.length j)
          generalize hF : fulls kp ws.length j = F at *
          by_cases h1 : j < ws.length
          · by_cases h2 : j < kp.length
            · have hne : bools kp ≠ [] := fun h => by
                have hl : (bools kp).length = kp.length := by unfold bools; rw [List.length_map]
                rw [h] at hl; change 0 = _ at hl; omega
              obtain ⟨b5, o5, c5', e5, _, _, hcell5⟩ := HR5.out.at hne
              cases e5
              have c5a := hcell5 j (.bool (kp.getD j false)) (by simp [bools, h2])
              generalize kp.getD j false = x at *
              clear hF
              cases F
              · go_wp2
                go_roundw
                case rel => exact ⟨j + 1, by omega, by omega, by rw [HF.out]; rfl, by go_num, by trivial⟩
                case measure => simp [intOf]; omega
              · go_wp2
                go_roundw
                case rel => exact ⟨j + 1, by omega, by omega, by rw [HF.out]; rfl, by go_num, by trivial⟩
                case measure => simp [intOf]; omega
            · have hmin : min ws.length kp.length = j := by omega
              have HLaw := Lib.hid (show ∀ i, i < 8 → ∀ A, (sentOf ws)[i]? = some A → oks F ((rows ((wrote s ws).crash kp) 8).getD i []) ((rows s 8).getD i []) A A.length = true by have h := HLaw.out; rw [hmin, hF] at h; exact h)
              have hT := HT.out
              have HT := Lib.hid hT
              have fewW : (wrote s ws).opn.length ≤ 1000000 := by show ws.length ≤ _; omega
              have HOn := Lib.hid (show ((wrote s ws).opn.length : Int) = (ws.length : Int) from rfl)
              have HCo := Lib.hid (show ((wrote s ws).crash kp).opn.length = 0 from rfl)
              have lkp : kp.length ≤ 9223372036854775807 := by omega
              clear hF hmin HF
              go_wp2_with (first
                | (go_at_call 16; refine Rets.use (all_c hT6.disk (fun k h => h.2.2)) ?_; rintro vn w7 ⟨hk7, hr7⟩; have hT7 := hT6.kept hk7 5; have hN7 := hr7.rd)
                | (go_at_call 15; refine Rets.use (dOpen_c hT6.disk) ?_; rintro v9 w6b ⟨rfl, rfl⟩; rw [HCo.out])
                | (go_at_call 17; refine Rets.use (dCrash_c hT.disk fewW _ kp HR5.out (fun k h1 h2 => by have := h2.2.1; omega) lkp) ?_; intro v6 w6 hp6; obtain ⟨rfl, hT6⟩ := hT.post hp6)
                | (go_at_call 15; refine Rets.use (dOpen_c hT.disk) ?_; rintro v9 w5b ⟨rfl, rfl⟩; rw [HOn.out]))
              clear hT HT hp6 HCo HOn hT6 HR5
              have HEnd := Lib.hid hT7.keep
              have hcl : (rows ((wrote s ws).crash kp) 8).length = 8 := rows_len _ _
              have HBig := Lib.hid (rows_big (HInv.out.crash_inv kp))
              generalize rows ((wrote s ws).crash kp) 8 = xs at *
              have hwl8 : (rows s 8).length = 8 := rows_len _ _
              obtain ⟨bw, ow, cw, rfl, hcw, _, hrw⟩ := hT7.was.form (by omega)
              obtain ⟨bn, on, cn, rfl, hcn, _, hrn⟩ := hN7.form (by omega)
              rw [hwl8] at hcw
              rw [hcl] at hcn
              rw [hwl8, hcl]
              generalize rows s 8 = ys at *
              have HW := Lib.hid (RowAt.of hwl8 hrw)
              have HN := Lib.hid (RowAt.of hcl hrn)
              have HS := Lib.hid (SentAt.of hT7)
              clear hT7 hN7 hrw hrn hr7
              go_loopw [17] (fun at_ w8 => ∃ i : Nat, i ≤ 8 ∧ at_ = .int .i64 i ∧ Keeps (fun _ => False) w7 w8) (fun at_ _ => 8 - (intOf at_).toNat)
              case atStart => exact ⟨0, Nat.zero_le _, rfl, Keeps.refl _ _⟩
              case round =>
                obtain ⟨i, hi, rfl, hK8⟩ := hrel
                by_cases hi8 : i < 8
                · obtain ⟨un, cn8, rn8⟩ := HN.out wr hK8 i hi8
                  obtain ⟨uw, cw8, rw8⟩ := HW.out wr hK8 i hi8
                  obtain ⟨A, vA, hA, cA8, rA8, lA⟩ := HS.out wr hK8 i hi8
                  have HRA := Lib.hid rA8
                  obtain ⟨vsA, rA1, rA2, rA3⟩ := rA8
                  obtain ⟨ZA, zc, rfl, hzc, hzn⟩ := rA1.slice
                  have HAl := Lib.hid (HLaw.out i hi8 A hA)
                  have lxn : (xs.getD i []).length ≤ 9223372036854775807 := by
                    have := HBig.out (xs.getD i []) (by rw [List.getD_eq_getElem?_getD, List.getElem?_eq_getElem (by omega)]; exact List.getElem_mem _)
                    omega
                  clear hA
                  have HSu := Lib.hid (oks_succ F (xs.getD i []) (ys.getD i []) A)
                  have HO0 := Lib.hid (show oks F (xs.getD i []) (ys.getD i []) A 0 = (decide (xs.getD i [] = ys.getD i []) && !(F && decide (0 < A.length))) by simp [oks])
                  generalize oks F (xs.getD i []) (ys.getD i []) A = O at *
                  generalize xs.getD i [] = x at *
                  generalize ys.getD i [] = y at *
                  have HRn := Lib.hid rn8
                  have HRw := Lib.hid rw8
                  have HK8 := Lib.hid hK8
                  clear rn8 rw8 rA1 rA2 rA3 hK8
                  go_upto_region 29 with (fail)
                  go_cut [18] (fun ok wc => ok = .bool (O 0) ∧ Keeps (fun _ => False) wr wc)
                  case first =>
                    refine Canon.row [0, 1, 2, 4, 5, 6, 3, 7, 8, 9, 10, 11, 12, 13, 14, 15, 16, 17, 18, 19, 20] (by kernel_rfl) (by kernel_rfl) (by repeat (first | (with_reducible exact Safe.body) | (with_reducible apply Safe.then) | (with_reducible apply Safe.inBlock) | (dsimp +zetaDelta only))) ?_
                    simp only [Canon.pick, Canon.wpPlan, List.getElem?_toArray, List.getElem?_cons_zero, List.getElem?_cons_succ]
                    have KD : Keeps (fun _ => False) wr wr.drew := (Keeps.refl _ wr).drew
                    have cn8 := KD.cell cn8 (fun h => h)
                    have cw8 := KD.cell cw8 (fun h => h)
                    have cA8 := KD.cell cA8 (fun h => h)
                    have HC := Lib.hid (fun hl => same_c un uw x y (HRn.out.kept KD (fun _ _ h => h)) (HRw.out.kept KD (fun _ _ h => h)) hl)
                    generalize wr.drew = wd at *
                    generalize hxy : decide (x = y) = e at *
                    have HXY := Lib.hid hxy
                    clear hxy
                    by_cases hA0 : 0 < A.length
                    · have HO1 := Lib.hid (show O 0 = (e && !F) by rw [HO0.out]; simp [hA0])
                      clear HO0
                      cases e
                      · go_wp2_with (go_at_call 26; refine Rets.use (HC.out lxn) ?_; rintro v9 w9 ⟨rfl, hk9⟩; have cA9 := hk9.cell cA8 (fun h => h); have hk9 := KD.trans hk9 (fun _ _ h => h))
                        refine ⟨by rfl, trivial, ?_⟩
                        go_wp2
                        go_meet
                        exact ⟨by rw [HO1.out] <;> rfl, hk9⟩
                      · cases F
                        · go_wp2_with (go_at_call 26; refine Rets.use (HC.out lxn) ?_; rintro v9 w9 ⟨rfl, hk9⟩; have cA9 := hk9.cell cA8 (fun h => h); have hk9 := KD.trans hk9 (fun _ _ h => h))
                          refine ⟨by rfl, trivial, ?_⟩
                          go_wp2
                          go_meet
                          exact ⟨by rw [HO1.out] <;> rfl, hk9⟩
                        · go_wp2_with (go_at_call 26; refine Rets.use (HC.out lxn) ?_; rintro v9 w9 ⟨rfl, hk9⟩; have cA9 := hk9.cell cA8 (fun h => h); have hk9 := KD.trans hk9 (fun _ _ h => h))
                          refine ⟨by rfl, trivial, ?_⟩
                          go_wp2
                          go_meet
                          exact ⟨by rw [HO1.out] <;> rfl, hk9⟩
                    · have HO1 := Lib.hid (show O 0 = e by rw [HO0.out]; simp [hA0])
                      clear HO0
                      cases e
                      · go_wp2_with (go_at_call 26; refine Rets.use (HC.out lxn) ?_; rintro v9 w9 ⟨rfl, hk9⟩; have cA9 := hk9.cell cA8 (fun h => h); have hk9 := KD.trans hk9 (fun _ _ h => h))
                        refine ⟨by rfl, trivial, ?_⟩
                        go_wp2
                        go_meet
                        exact ⟨by rw [HO1.out] <;> rfl, hk9⟩
                      · cases F
                        · go_wp2_with (go_at_call 26; refine Rets.use (HC.out lxn) ?_; rintro v9 w9 ⟨rfl, hk9⟩; have cA9 := hk9.cell cA8 (fun h => h); have hk9 := KD.trans hk9 (fun _ _ h => h))
                          refine ⟨by rfl, trivial, ?_⟩
                          go_wp2
                          go_meet
                          exact ⟨by rw [HO1.out] <;> rfl, hk9⟩
                        · go_wp2_with (go_at_call 26; refine Rets.use (HC.out lxn) ?_; rintro v9 w9 ⟨rfl, hk9⟩; have cA9 := hk9.cell cA8 (fun h => h); have hk9 := KD.trans hk9 (fun _ _ h => h))
                          refine ⟨by rfl, trivial, ?_⟩
                          go_wp2
                          go_meet
                          exact ⟨by rw [HO1.out] <;> rfl, hk9⟩
                  case rest =>
                  obtain ⟨rfl, hkc⟩ := hcut
                  clear HO0
                  have HKc := Lib.hid hkc
                  clear hkc
                  go_wp2
                  go_loopw [18, 19] (fun ok i w10 => ∃ j : Nat, j ≤ A.length ∧ ok = .bool (O j) ∧ i = .int .i64 j ∧ Keeps (fun _ => False) wc w10) (fun _ i _ => A.length - (intOf i).toNat)
                  case atStart => exact ⟨0, Nat.zero_le _, rfl, rfl, Keeps.refl _ _⟩
                  case round =>
                    obtain ⟨j, hj, rfl, rfl, hK10⟩ := hrel
                    have hKr := HKc.out.trans hK10 (fun _ _ h => h)
                    have cA10 := hKr.cell cA8 (fun h => h)
                    by_cases hjA : j < A.length
                    · have HSj := Lib.hid (HSu.out j)
                      obtain ⟨vsj, hA1, hA2, hA3⟩ := HRA.out
                      obtain ⟨uj, huj, rj⟩ := hA3 j (A.getD j []) (by rw [List.getD_eq_getElem?_getD, List.getElem?_eq_getElem hjA]; rfl)
                      obtain ⟨bA, oA, cA, eA, _, _, hcellA⟩ := hA1.at (fun h => by rw [h] at huj; cases huj)
                      cases eA
                      have cj := hKr.cell (hcellA j uj huj) (fun h => h)
                      have HRj := Lib.hid (rj.kept hKr (fun _ _ h => h))
                      have cn10 := hKr.cell cn8 (fun h => h)
                      have HRn10 := Lib.hid (HRn.out.kept hKr (fun _ _ h => h))
                      have HK10 := Lib.hid hK10
                      clear hA1 hA2 hA3 huj rj hcellA hKr hK10 cA8 cn8 cw8
                      go_wp2
                      refine Canon.row [0, 1, 2, 3, 4, 6, 7, 9, 5, 8, 10, 11, 12, 13, 14, 15, 16, 17, 18, 19, 20, 21, 22, 23, 24, 25, 26, 27] (by kernel_rfl) (by kernel_rfl) (by repeat (first | (with_reducible exact Safe.body) | (with_reducible apply Safe.then) | (with_reducible apply Safe.inBlock) | (dsimp +zetaDelta only))) ?_
                      simp only [Canon.pick, Canon.wpPlan, List.getElem?_toArray, List.getElem?_cons_zero, List.getElem?_cons_succ]
                      have KD : Keeps (fun _ => False) wr wr.drew := (Keeps.refl _ wr).drew
                      have cn8 := KD.cell cn10 (fun h => h)
                      have cj8 := KD.cell cj (fun h => h)
                      have cA8 := KD.cell cA10 (fun h => h)
                      have HC := Lib.hid (fun hl => same_c un uj x (A.getD j []) (HRn10.out.kept KD (fun _ _ h => h)) (HRj.out.kept KD (fun _ _ h => h)) hl)
                      have HKd := Lib.hid (HK10.out.trans KD (fun _ _ h => h))
                      generalize A.getD j [] = z at *
                      clear cn10 cj cA10 HRn10 HRj HK10 KD
                      generalize wr.drew = wd at *
                      generalize decide (x = z) = e at *
                      generalize hoj : O j = o at *
                      clear hoj
                      cases o
                      · have HSj := Lib.hid (show O (j + 1) = (e && (!F || decide (j = A.length - 1))) by rw [HSj.out]; rfl)
                        cases e
                        · have HSk := Lib.hid (show O (j + 1) = false by rw [HSj.out]; rfl)
                          go_wp2_with (go_at_call 26; refine Rets.use (HC.out lxn) ?_; rintro v9 w9 ⟨rfl, hk9⟩; have cA9 := hk9.cell cA8 (fun h => h))
                          refine ⟨by rfl, trivial, ?_⟩
                          go_wp2
                          go_roundw
                          case rel => exact ⟨j + 1, by omega, by rw [HSk.out], by go_num, HKd.out.trans hk9 (fun _ _ h => h)⟩
                          case measure => simp [intOf]; omega
                        · cases F
                          · have HSk := Lib.hid (show O (j + 1) = true by rw [HSj.out]; rfl)
                            go_wp2_with (go_at_call 26; refine Rets.use (HC.out lxn) ?_; rintro v9 w9 ⟨rfl, hk9⟩; have cA9 := hk9.cell cA8 (fun h => h))
                            refine ⟨by rfl, trivial, ?_⟩
                            go_wp2
                            go_roundw
                            case rel => exact ⟨j + 1, by omega, by rw [HSk.out], by go_num, HKd.out.trans hk9 (fun _ _ h => h)⟩
                            case measure => simp [intOf]; omega
                          · by_cases hjl : j = A.length - 1
                            · have HSk := Lib.hid (show O (j + 1) = true by rw [HSj.out]; simp [hjl])
                              have hjb : ((j : Int) == (A.length : Int) - 1) = true := by simp; omega
                              clear hjl
                              go_wp2_with (go_at_call 26; refine Rets.use (HC.out lxn) ?_; rintro v9 w9 ⟨rfl, hk9⟩; have cA9 := hk9.cell cA8 (fun h => h))
                              refine ⟨by rfl, trivial, ?_⟩
                              go_wp2
                              go_roundw
                              case rel => exact ⟨j + 1, by omega, by rw [HSk.out], by go_num, HKd.out.trans hk9 (fun _ _ h => h)⟩
                              case measure => simp [intOf]; omega
                            · have HSk := Lib.hid (show O (j + 1) = false by rw [HSj.out]; simp [hjl])
                              have hjb : ((j : Int) == (A.length : Int) - 1) = false := by simp; omega
                              clear hjl
                              go_wp2_with (go_at_call 26; refine Rets.use (HC.out lxn) ?_; rintro v9 w9 ⟨rfl, hk9⟩; have cA9 := hk9.cell cA8 (fun h => h))
                              refine ⟨by rfl, trivial, ?_⟩
                              go_wp2
                              go_roundw
                              case rel => exact ⟨j + 1, by omega, by rw [HSk.out], by go_num, HKd.out.trans hk9 (fun _ _ h => h)⟩
                              case measure => simp [intOf]; omega
                      · have HSk := Lib.hid (show O (j + 1) = true by rw [HSj.out]; rfl)
                        go_wp2
                        refine ⟨by rfl, trivial, ?_⟩
                        go_wp2
                        go_roundw
                        case rel => exact ⟨j + 1, by omega, by rw [HSk.out], by go_num, HKd.out⟩
                        case measure => simp [intOf]; omega
                    · obtain rfl : j = A.length := by omega
                      have HK10 := Lib.hid (HK8.out.trans hKr (fun _ _ h => h))
                      rw [HAl.out]
                      clear hKr hK10 cA8 cn8 cw8
                      go_wp2
                      go_roundw
                      case rel => exact ⟨i + 1, by omega, by go_num, HK10.out⟩
                      case measure => simp [intOf]; omega
                · obtain rfl : i = 8 := by omega
                  go_wp2_with (go_at_call 20; refine Rets.use (lives09_c _) ?_; rintro v w18 ⟨rfl, hk18⟩)
                  go_ret
                  exact ⟨rfl, (HEnd.out.trans hK8 (fun _ _ h => h)).trans hk18 (fun _ _ h => h)⟩
          · have hmin : min ws.length kp.length = j := by omega
            (exfalso; omega)
theorem tears_walk (W : World) (a0 : Option Addr) (n0 c0 : Nat) (x0 : (Kd.slice KDo).Dat) (H0 : Has W (.slice KDo) [.slice a0 n0 c0] x0) (a1 : Option Addr) (n1 c1 : Nat) (x1 : (Kd.slice KDo).Dat) (H1 : Has W (.slice KDo) [.slice a1 n1 c1] x1) (a2 : Option Addr) (n2 c2 : Nat) (x2 : (Kd.slice .bool).Dat) (H2 : Has W (.slice .bool) [.slice a2 n2 c2] x2) :
    Calls Try.prog 4 #[.slice a0 n0 c0, .slice a1 n1 c1, .slice a2 n2 c2] W (Rets (Yes W)) := tears_in W _ _ _ _ _ _ (Dos.of H0) (Dos.of H1) H2.bools.1 H2.bools.2
end Go.Proofs.Ytmkpdoljaccpaaa
