/-
  The walk of Encode.
-/
import Derived.Test.YtbiohidelhfaiaaChgM
namespace Go.Proofs.Ytbiohidelhfaiaa
open Go.RowKit Go.Canon Go.Mem
open Go.Proofs.Ytbiohidelhfaiaa.Sto (Chg)
set_option linter.unusedVariables false
set_option linter.unusedSimpArgs false
/-- Bytes of the call's own, an error; all that was there is as it was. -/
def TwoIs (w : World) (p : List Int × Int) : Value → World → Prop := fun v w' => Keeps (fun _ => False) w w' ∧ ∃ u, v = .tuple #[u, .int .i64 p.2] ∧ OwnRow w' (fun j => w.heap.size ≤ j) 5 1 u p.1.length (Disk.bytes8 p.1)
theorem var_len (f x : Nat) : (Sto.var f x).length ≤ f + 1 := by
  induction f generalizing x with
  | zero => simp [Sto.var]
  | succ f ih => rw [Sto.var]; split <;> simp; exact ih _
theorem varF_len (x : Nat) : (Sto.varF x).length ≤ 10 := var_len 9 x
theorem var_byte : ∀ (f x : Nat), x < 128 ^ (f + 1) → IsB (Sto.var f x) := by
  intro f
  induction f with
  | zero => intro x hx y hy; simp only [Sto.var, List.mem_singleton] at hy; simp at hx; omega
  | succ f ih =>
    intro x hx y hy
    rw [Sto.var] at hy
    split at hy
    · rw [List.mem_singleton] at hy; omega
    · have hp : (128 : Nat) ^ (f + 1 + 1) = 128 * 128 ^ (f + 1) := by rw [Nat.pow_succ]; omega
      rcases List.mem_cons.1 hy with rfl | hy
      · omega
      · exact ih (x / 128) (by rw [Nat.div_lt_iff_lt_mul (by decide)]; omega) y hy
theorem enc1_len {c : Chg} (h : Sto.keyF c.key = true) (h2 : c.val.length ≤ 4096) : (Sto.enc1 c).length ≤ 4200 := by
  unfold Sto.keyF at h
  simp only [Bool.and_eq_true, decide_eq_true_eq] at h
  have h3 := varF_len c.key.length
  have h4 := varF_len c.val.length
  unfold Sto.enc1 Sto.counted
  split <;> simp only [List.length_cons, List.length_append, List.length_nil] <;> omega
theorem encs_len : ∀ (l : List Chg), (∀ c ∈ l, Sto.keyF c.key = true ∧ c.val.length ≤ 4096) → (l.flatMap Sto.enc1).length ≤ 4200 * l.length := by
  intro l
  induction l with
  | nil => intro _; simp
  | cons c l ih =>
    intro h
    have h1 := enc1_len (h c (List.mem_cons_self ..)).1 (h c (List.mem_cons_self ..)).2
    have h2 := ih (fun d hd => h d (List.mem_cons_of_mem _ hd))
    rw [List.flatMap_cons, List.length_append, List.length_cons]
    omega
theorem encs_next {l : List Chg} {k : Nat} (h : k < l.length) : (l.take (k + 1)).flatMap Sto.enc1 = (l.take k).flatMap Sto.enc1 ++ Sto.enc1 l[k] := by
  rw [List.take_add_one, List.getElem?_eq_getElem h, List.flatMap_append]; simp
set_option maxHeartbeats 12800000 in
set_option maxRecDepth 100000 in
theorem encode_c {w : World} {ok : Nat → Prop} (l : List Chg) (hB : ChgB l) (hl : l.length ≤ 1000000) (v : Value) (h : Chgs w ok v l) (hok : ∀ k, ok k → k < w.heap.size) : Calls Try.prog 12 #[v] w (Rets (TwoIs w (Sto.enc l))) := by
  obtain ⟨A, c, rfl, hlc, _, _⟩ := id h
  have H := Lib.hid h
  have HB := Lib.hid hB
  have HCk := Lib.hid (check_c l hB hl _ h hok)
  by_cases hz : Sto.chk l = 0
  · have HZ := Lib.hid (show Sto.enc l = (Sto.encL l, 0) by unfold Sto.enc; rw [if_neg (fun h => h hz)])
    rw [hz] at HCk
    obtain ⟨hg, hl1, hl2⟩ := Sto.chk_good hz
    have HG := Lib.hid hg
    have HV := Lib.hid (fun w => wvar_c l.length (by omega) w)
    have hvn := varF_len l.length
    clear h hB hz hg
    go_enter Try.func12, Try.ntmps12
    go_wp2_with (first
      | (go_at_call 18; refine Rets.use HCk.out ?_; rintro _ w1 ⟨rfl, hk1⟩)
      | (go_at_call 40; refine Rets.use (HV.out _) ?_; rintro v2 w2 hO2))
    have HK2 := Lib.hid (hk1.trans hO2.2 (fun _ _ h => h))
    have HO2 := Lib.hid (hO2.1.mono (ok' := fun j => w.heap.size ≤ j) (fun j _ h => by have := hk1.size; omega))
    clear hO2 hk1
    go_loopw [5, 20] (fun ov i wr => ∃ k : Nat, k ≤ l.length ∧ i = .int .i64 k ∧ Keeps (fun _ => False) w wr ∧ OwnRow wr (fun j => w.heap.size ≤ j) 5 1 ov (Sto.varF l.length ++ (l.take k).flatMap Sto.enc1).length (Disk.bytes8 (Sto.varF l.length ++ (l.take k).flatMap Sto.enc1))) (fun _ i _ => l.length - (intOf i).toNat)
    case atStart => exact ⟨0, Nat.zero_le _, rfl, HK2.out, by have := HO2.out; simpa using this⟩
    case round =>
      obtain ⟨k, hk, rfl, hkr, hO⟩ := hrel
      have HKr := Lib.hid hkr
      have hel := encs_len (l.take k) (fun c hc => ⟨(HG.out c (List.mem_of_mem_take hc)).2.1, (HG.out c (List.mem_of_mem_take hc)).2.2⟩)
      rw [List.length_take] at hel
      by_cases hlt : k < l.length
      · obtain ⟨A', c', e, _, _, hin⟩ := H.out
        cases e
        obtain ⟨b, o, e, hb, vV, c0, c1, c2, hrV⟩ := hin k _ (List.getElem?_eq_getElem hlt)
        cases e
        obtain ⟨Av, cv, rfl, _⟩ := hrV.slice
        obtain ⟨hb1, hb2, hb3, hb4⟩ := HB.out _ (List.getElem_mem hlt)
        obtain ⟨_, hkf, hvl⟩ := HG.out _ (List.getElem_mem hlt)
        have HN := Lib.hid (encs_next hlt)
        have c0 := hkr.cell c0 (fun h => h)
        have c1 := hkr.cell c1 (fun h => h)
        have c2 := hkr.cell c2 (fun h => h)
        have hbw := hok b hb
        have HRV := Lib.hid ((hrV.mono (ok' := fun j => j < w.heap.size) hok).kept hkr (fun _ _ h => h))
        generalize l[k] = d at *
        obtain ⟨key, del, val⟩ := d
        simp only at c0 c1 c2 hb1 hb2 hb3 hb4 hkf hvl HRV
        have zk := str_size key
        have hk40 : key.length ≤ 40 := by unfold Sto.keyF at hkf; simp only [Bool.and_eq_true, decide_eq_true_eq] at hkf; exact hkf.2.2
        have HVk := Lib.hid (fun w => wvar_c key.length (by omega) w)
        have HVv := Lib.hid (fun w => wvar_c val.length (by omega) w)
        have hvk := varF_len key.length
        have hvv := varF_len val.length
        have HKy := Lib.hid hb1
        generalize hP : Sto.varF l.length ++ (l.take k).flatMap Sto.enc1 = P at *
        have hPl : P.length ≤ 70000 := by rw [← hP, List.length_append]; omega
        have HN2 := Lib.hid (show Sto.varF l.length ++ (l.take (k + 1)).flatMap Sto.enc1 = P ++ Sto.enc1 ⟨key, del, val⟩ by rw [HN.out, ← hP, List.append_assoc])
        obtain ⟨sk, hsk⟩ : ∃ s, s = str key := ⟨_, rfl⟩
        have HSk := Lib.hid hsk
        rw [← hsk] at c0 zk
        obtain ⟨Ao, co, rfl, _⟩ := hO.slice
        have HO := Lib.hid hO
        have hwr := hkr.size
        clear hin hrV hsk hkr hb1 hb2 hP HN hO hel hkf
        cases del with
        | true =>
          obtain ⟨P1, hP1⟩ : ∃ q, P ++ [1] = q := ⟨_, rfl⟩
          obtain ⟨P2, hP2⟩ : ∃ q, P1 ++ Sto.varF key.length = q := ⟨_, rfl⟩
          obtain ⟨P3, hP3⟩ : ∃ q, P2 ++ key = q := ⟨_, rfl⟩
          have hl1' : P1.length ≤ 70001 := by rw [← hP1]; simp only [List.length_append, List.length_cons, List.length_nil]; omega
          have hl2' : P2.length ≤ 70011 := by rw [← hP2]; simp only [List.length_append]; omega
          have hl3' : P3.length ≤ 70051 := by rw [← hP3]; simp only [List.length_append]; omega
          have HP1 := Lib.hid hP1
          have HP2 := Lib.hid hP2
          have HP3 := Lib.hid hP3
          clear hP1 hP2 hP3
          go_wp2_with (first
            | ((with_reducible refine at_ 7 rfl ?_); go_must (refine step_alloc rfl _ rfl _ chgZ row_chg rfl ?_); intro w3 hb3 hk3 hs3)
            | ((with_reducible refine at_store 41 (.tmp 7) (.tmp 23) rfl ?_); go_must (refine step_store rfl _ _ _ rfl wr.heap.size 0 [.string sk, .bool true, .slice Av val.length cv] _ _ rfl rfl hb3 (by simp [chgZ]) info_chg (by simp [Value.oneCell']) ?_); intro w4 hb4 hk4 hs4; rw [put_whole (by rfl)] at hb4; have d1 : w4.cell? ⟨wr.heap.size, 1, none⟩ = some (.bool true) := cell_of_row w4 _ _ _ _ _ hb4))
          have KS := (((Keeps.refl (fun _ => False) wr).trans hk3 (fun _ _ h => h) |>.mono (S' := fun j => wr.heap.size ≤ j) (fun _ _ h => h.elim)).trans hk4 (fun j _ h => by omega) |>.mono (S' := fun _ => False) (fun j hj h => by omega))
          have HK4 := Lib.hid (HKr.out.trans KS (fun _ _ h => h))
          have HO4 := Lib.hid ((HO.out.mono (ok' := fun j => w.heap.size ≤ j ∧ j ≠ wr.heap.size) (fun j hj h => ⟨h, by omega⟩)).kept KS (fun _ _ h => h))
          have HRV4 := Lib.hid (HRV.out.kept KS (fun _ _ h => h))
          have hB4 : wr.heap.size < w4.heap.size := by omega
          have hwB : w.heap.size ≤ wr.heap.size := hwr
          have hb4 : w4.heap[wr.heap.size]? = some (.cells [Value.string sk, .bool true, .slice Av val.length cv].toArray 41 (0, 0)) := hb4
          generalize wr.heap.size = B at *
          clear hb3 hk3 hk4 hs3 hs4 KS d1
          refine Canon.region [2, 3] [(⟨B, 0, none⟩, .string sk)] [(5, 0)] (.hold [0, 1, 4, 5, 6, 7] (.loud 2 (.loud 3 (.seg [8, 9, 10] .stop)))) (by kernel_rfl) (by kernel_rfl) (by repeat (first | (with_reducible exact Safe.body) | (with_reducible apply Safe.then) | (with_reducible apply Safe.inBlock) | (dsimp +zetaDelta only))) ?_
          simp only [Canon.pick, Canon.wpPlan, List.getElem?_toArray, List.getElem?_cons_zero, List.getElem?_cons_succ]
          have KD : Keeps (fun _ => False) w4 w4.drew := (Keeps.refl _ w4).drew
          have hbd := KD.heap hb4 (fun h => h)
          have HKd := Lib.hid (HK4.out.trans KD (fun _ _ h => h))
          have HOd := Lib.hid (HO4.out.kept KD (fun _ _ h => h))
          have HRVd := Lib.hid (HRV4.out.kept KD (fun _ _ h => h))
          have hBd : B < w4.drew.heap.size := hB4
          generalize w4.drew = wd at *
          have HBd := Lib.hid hbd
          have HLx := Lib.hid (fun (x : World) (h : x.heap[B]? = some (.cells [Value.string sk, .bool true, .slice Av val.length cv].toArray 41 (0, 0))) => (by
            intro p hp
            rw [List.mem_singleton] at hp
            subst hp
            exact (cell_of_row x _ 0 _ _ _ h).trans rfl : Cells [(⟨B, 0, none⟩, Value.string sk)] x))
          clear hbd KD hb4
          have e0 : wd.cell? ⟨B, 0, none⟩ = some (.string sk) := cell_of_row wd _ 0 _ _ _ HBd.out
          refine ⟨HLx.out _ HBd.out, ?_⟩
          go_wp2_with ((with_reducible refine at_ 28 rfl ?_); go_must (refine step_lit rfl 23 _ 1 rfl [.int .u8 1] rfl rfl (by decide) 5 _ 1 Try.underlying23 row2_byte (by decide) (by decide) (by intro v hv; rw [List.mem_singleton] at hv; subst hv; rfl) ?_); intro w5 hb5 hk5 hs5)
          have HB5 := Lib.hid (hk5.heap HBd.out (fun h => h))
          refine ⟨HLx.out _ HB5.out, ?_⟩
          go_wp2_with ((with_reducible refine at_ 29 rfl ?_); go_must (refine app_rd (ok := fun j => w.heap.size ≤ j ∧ j ≠ B) rfl _ _ rfl (.slice Ao P.length co) P rfl (HOd.out.kept hk5 (fun _ _ h => h)) _ 1 [1] rfl (lit_one hb5 (Nat.le_refl _)) rfl (by simp only [List.length_cons, List.length_nil]; omega) ?_); intro v6 w6 hO6 hk6; rw [HP1.out] at hO6)
          have HB6 := Lib.hid (hk6.heap HB5.out (fun h => h.2 rfl))
          have HO6 := Lib.hid (hO6.mono (ok' := fun j => w.heap.size ≤ j ∧ j ≠ B) (fun j _ h => by rcases h with h | h; exact h; exact ⟨by omega, by omega⟩))
          have HKx6 := Lib.hid (hk5.mono (S' := fun j => w.heap.size ≤ j ∧ j ≠ B) (fun _ _ h => h.elim) |>.trans hk6 (fun _ _ h => h))
          have hz6 : B < w6.heap.size := by have := hk5.size; have := hk6.size; omega
          obtain ⟨A6, c6, rfl, _⟩ := hO6.slice
          clear hk5 hk6 hO6 hb5 hs5
          refine ⟨HLx.out _ HB6.out, ?_⟩
          go_wp2_with (first
            | (go_at_call 40; refine Rets.use (HVk.out _) ?_; rintro v7 w7 hO7)
            | ((with_reducible refine at_ 35 rfl ?_); go_must (refine app_rd (ok := fun j => w.heap.size ≤ j ∧ j ≠ B) rfl _ _ rfl (.slice A6 P1.length c6) P1 rfl (HO6.out.kept hO7.2 (fun _ _ h => h)) v7 _ (Sto.varF key.length) rfl hO7.1.rd rfl (by omega) ?_); intro v8 w8 hO8 hk8; rw [HP2.out] at hO8))
          refine ⟨by rfl, ⟨fun _ => rfl, trivial⟩, ?_⟩
          have HB8 := Lib.hid (hk8.heap (hO7.2.heap HB6.out (fun h => h)) (fun h => h.2 rfl))
          have HO8 := Lib.hid (hO8.mono (ok' := fun j => w.heap.size ≤ j ∧ j ≠ B) (fun j _ h => by have := hO7.2.size; rcases h with h | h; exact h; exact ⟨by omega, by omega⟩))
          have HKx8 := Lib.hid (HKx6.out.trans (hO7.2.mono (S' := fun j => w.heap.size ≤ j ∧ j ≠ B) (fun _ _ h => h.elim) |>.trans hk8 (fun _ _ h => h)) (fun _ _ h => h))
          have hz8 : B < w8.heap.size := by have := hO7.2.size; have := hk8.size; omega
          obtain ⟨A8, c8, rfl, _⟩ := hO8.slice
          clear hO7 hk8 hO8
          have d0 : w8.cell? ⟨B, 0, none⟩ = some (.string sk) := cell_of_row w8 _ 0 _ _ _ HB8.out
          go_wp2_with ((with_reducible refine at_ 39 rfl ?_); go_must (refine app_str (ok := fun j => w.heap.size ≤ j ∧ j ≠ B) rfl _ _ rfl (.slice A8 P2.length c8) P2 rfl HO8.out key (by rw [← HSk.out]; rfl) HKy.out (by omega) ?_); intro v9 w9 hO9 hk9; rw [HP3.out] at hO9; have hb9 := hk9.heap HB8.out (fun h => h.2 rfl); have d1 : w9.cell? ⟨B, 1, none⟩ = some (.bool true) := cell_of_row w9 _ 1 _ _ _ hb9; have d2 : w9.cell? ⟨B, 2, none⟩ = some (.slice Av val.length cv) := cell_of_row w9 _ 2 _ _ _ hb9; have HB9 := Lib.hid hb9; have HO9 := Lib.hid (hO9.mono (ok' := fun j => w.heap.size ≤ j ∧ j ≠ B) (fun j _ h => by rcases h with h | h; exact h; exact ⟨by omega, by omega⟩)); have HKx9 := Lib.hid (HKx8.out.trans hk9 (fun _ _ h => h)); have HK9 := Lib.hid ((HKd.out.mono (S' := fun j => w.heap.size ≤ j) (fun _ _ h => h.elim)).trans HKx9.out (fun j _ h => h.1) |>.mono (S' := fun _ => False) (fun j hj h => by omega)); have hz9 : B < w9.heap.size := by have := hk9.size; omega)
          have HE := Lib.hid (show Sto.varF l.length ++ (l.take (k + 1)).flatMap Sto.enc1 = P3 by rw [HN2.out, ← HP3.out, ← HP2.out, ← HP1.out]; simp [Sto.enc1, Sto.counted])
          go_roundw
          case rel => exact ⟨k + 1, by omega, by go_num, HK9.out, by rw [HE.out]; exact HO9.out.mono (fun j _ h => h.1)⟩
          case measure => simp [intOf]; omega
        | false =>
          obtain ⟨P1, hP1⟩ : ∃ q, P ++ [0] = q := ⟨_, rfl⟩
          obtain ⟨P2, hP2⟩ : ∃ q, P1 ++ Sto.varF key.length = q := ⟨_, rfl⟩
          obtain ⟨P3, hP3⟩ : ∃ q, P2 ++ key = q := ⟨_, rfl⟩
          have hl1' : P1.length ≤ 70001 := by rw [← hP1]; simp only [List.length_append, List.length_cons, List.length_nil]; omega
          have hl2' : P2.length ≤ 70011 := by rw [← hP2]; simp only [List.length_append]; omega
          have hl3' : P3.length ≤ 70051 := by rw [← hP3]; simp only [List.length_append]; omega
          have HP1 := Lib.hid hP1
          have HP2 := Lib.hid hP2
          have HP3 := Lib.hid hP3
          clear hP1 hP2 hP3
          go_wp2_with (first
            | ((with_reducible refine at_ 7 rfl ?_); go_must (refine step_alloc rfl _ rfl _ chgZ row_chg rfl ?_); intro w3 hb3 hk3 hs3)
            | ((with_reducible refine at_store 41 (.tmp 7) (.tmp 23) rfl ?_); go_must (refine step_store rfl _ _ _ rfl wr.heap.size 0 [.string sk, .bool false, .slice Av val.length cv] _ _ rfl rfl hb3 (by simp [chgZ]) info_chg (by simp [Value.oneCell']) ?_); intro w4 hb4 hk4 hs4; rw [put_whole (by rfl)] at hb4; have d1 : w4.cell? ⟨wr.heap.size, 1, none⟩ = some (.bool false) := cell_of_row w4 _ _ _ _ _ hb4))
          have KS := (((Keeps.refl (fun _ => False) wr).trans hk3 (fun _ _ h => h) |>.mono (S' := fun j => wr.heap.size ≤ j) (fun _ _ h => h.elim)).trans hk4 (fun j _ h => by omega) |>.mono (S' := fun _ => False) (fun j hj h => by omega))
          have HK4 := Lib.hid (HKr.out.trans KS (fun _ _ h => h))
          have HO4 := Lib.hid ((HO.out.mono (ok' := fun j => w.heap.size ≤ j ∧ j ≠ wr.heap.size) (fun j hj h => ⟨h, by omega⟩)).kept KS (fun _ _ h => h))
          have HRV4 := Lib.hid (HRV.out.kept KS (fun _ _ h => h))
          have hB4 : wr.heap.size < w4.heap.size := by omega
          have hwB : w.heap.size ≤ wr.heap.size := hwr
          have hb4 : w4.heap[wr.heap.size]? = some (.cells [Value.string sk, .bool false, .slice Av val.length cv].toArray 41 (0, 0)) := hb4
          generalize wr.heap.size = B at *
          clear hb3 hk3 hk4 hs3 hs4 KS d1
          refine Canon.region [2, 3] [(⟨B, 0, none⟩, .string sk)] [(5, 0)] (.hold [0, 1, 4, 5, 6, 7] (.loud 2 (.loud 3 (.seg [8, 9, 10] .stop)))) (by kernel_rfl) (by kernel_rfl) (by repeat (first | (with_reducible exact Safe.body) | (with_reducible apply Safe.then) | (with_reducible apply Safe.inBlock) | (dsimp +zetaDelta only))) ?_
          simp only [Canon.pick, Canon.wpPlan, List.getElem?_toArray, List.getElem?_cons_zero, List.getElem?_cons_succ]
          have KD : Keeps (fun _ => False) w4 w4.drew := (Keeps.refl _ w4).drew
          have hbd := KD.heap hb4 (fun h => h)
          have HKd := Lib.hid (HK4.out.trans KD (fun _ _ h => h))
          have HOd := Lib.hid (HO4.out.kept KD (fun _ _ h => h))
          have HRVd := Lib.hid (HRV4.out.kept KD (fun _ _ h => h))
          have hBd : B < w4.drew.heap.size := hB4
          generalize w4.drew = wd at *
          have HBd := Lib.hid hbd
          have HLx := Lib.hid (fun (x : World) (h : x.heap[B]? = some (.cells [Value.string sk, .bool false, .slice Av val.length cv].toArray 41 (0, 0))) => (by
            intro p hp
            rw [List.mem_singleton] at hp
            subst hp
            exact (cell_of_row x _ 0 _ _ _ h).trans rfl : Cells [(⟨B, 0, none⟩, Value.string sk)] x))
          clear hbd KD hb4
          have e0 : wd.cell? ⟨B, 0, none⟩ = some (.string sk) := cell_of_row wd _ 0 _ _ _ HBd.out
          refine ⟨HLx.out _ HBd.out, ?_⟩
          go_wp2_with ((with_reducible refine at_ 28 rfl ?_); go_must (refine step_lit rfl 23 _ 1 rfl [.int .u8 0] rfl rfl (by decide) 5 _ 1 Try.underlying23 row2_byte (by decide) (by decide) (by intro v hv; rw [List.mem_singleton] at hv; subst hv; rfl) ?_); intro w5 hb5 hk5 hs5)
          have HB5 := Lib.hid (hk5.heap HBd.out (fun h => h))
          refine ⟨HLx.out _ HB5.out, ?_⟩
          go_wp2_with ((with_reducible refine at_ 29 rfl ?_); go_must (refine app_rd (ok := fun j => w.heap.size ≤ j ∧ j ≠ B) rfl _ _ rfl (.slice Ao P.length co) P rfl (HOd.out.kept hk5 (fun _ _ h => h)) _ 1 [0] rfl (lit_one hb5 (Nat.le_refl _)) rfl (by simp only [List.length_cons, List.length_nil]; omega) ?_); intro v6 w6 hO6 hk6; rw [HP1.out] at hO6)
          have HB6 := Lib.hid (hk6.heap HB5.out (fun h => h.2 rfl))
          have HO6 := Lib.hid (hO6.mono (ok' := fun j => w.heap.size ≤ j ∧ j ≠ B) (fun j _ h => by rcases h with h | h; exact h; exact ⟨by omega, by omega⟩))
          have HKx6 := Lib.hid (hk5.mono (S' := fun j => w.heap.size ≤ j ∧ j ≠ B) (fun _ _ h => h.elim) |>.trans hk6 (fun _ _ h => h))
          have hz6 : B < w6.heap.size := by have := hk5.size; have := hk6.size; omega
          obtain ⟨A6, c6, rfl, _⟩ := hO6.slice
          clear hk5 hk6 hO6 hb5 hs5
          refine ⟨HLx.out _ HB6.out, ?_⟩
          go_wp2_with (first
            | (go_at_call 40; refine Rets.use (HVk.out _) ?_; rintro v7 w7 hO7)
            | ((with_reducible refine at_ 35 rfl ?_); go_must (refine app_rd (ok := fun j => w.heap.size ≤ j ∧ j ≠ B) rfl _ _ rfl (.slice A6 P1.length c6) P1 rfl (HO6.out.kept hO7.2 (fun _ _ h => h)) v7 _ (Sto.varF key.length) rfl hO7.1.rd rfl (by omega) ?_); intro v8 w8 hO8 hk8; rw [HP2.out] at hO8))
          refine ⟨by rfl, ⟨fun _ => rfl, trivial⟩, ?_⟩
          have HB8 := Lib.hid (hk8.heap (hO7.2.heap HB6.out (fun h => h)) (fun h => h.2 rfl))
          have HO8 := Lib.hid (hO8.mono (ok' := fun j => w.heap.size ≤ j ∧ j ≠ B) (fun j _ h => by have := hO7.2.size; rcases h with h | h; exact h; exact ⟨by omega, by omega⟩))
          have HKx8 := Lib.hid (HKx6.out.trans (hO7.2.mono (S' := fun j => w.heap.size ≤ j ∧ j ≠ B) (fun _ _ h => h.elim) |>.trans hk8 (fun _ _ h => h)) (fun _ _ h => h))
          have hz8 : B < w8.heap.size := by have := hO7.2.size; have := hk8.size; omega
          obtain ⟨A8, c8, rfl, _⟩ := hO8.slice
          clear hO7 hk8 hO8
          have d0 : w8.cell? ⟨B, 0, none⟩ = some (.string sk) := cell_of_row w8 _ 0 _ _ _ HB8.out
          go_wp2_with ((with_reducible refine at_ 39 rfl ?_); go_must (refine app_str (ok := fun j => w.heap.size ≤ j ∧ j ≠ B) rfl _ _ rfl (.slice A8 P2.length c8) P2 rfl HO8.out key (by rw [← HSk.out]; rfl) HKy.out (by omega) ?_); intro v9 w9 hO9 hk9; rw [HP3.out] at hO9; have hb9 := hk9.heap HB8.out (fun h => h.2 rfl); have d1 : w9.cell? ⟨B, 1, none⟩ = some (.bool false) := cell_of_row w9 _ 1 _ _ _ hb9; have d2 : w9.cell? ⟨B, 2, none⟩ = some (.slice Av val.length cv) := cell_of_row w9 _ 2 _ _ _ hb9; have HB9 := Lib.hid hb9; have HO9 := Lib.hid (hO9.mono (ok' := fun j => w.heap.size ≤ j ∧ j ≠ B) (fun j _ h => by rcases h with h | h; exact h; exact ⟨by omega, by omega⟩)); have HKx9 := Lib.hid (HKx8.out.trans hk9 (fun _ _ h => h)); have HK9 := Lib.hid ((HKd.out.mono (S' := fun j => w.heap.size ≤ j) (fun _ _ h => h.elim)).trans HKx9.out (fun j _ h => h.1) |>.mono (S' := fun _ => False) (fun j hj h => by omega)); have hz9 : B < w9.heap.size := by have := hk9.size; omega)
          obtain ⟨P4, hP4⟩ : ∃ q, P3 ++ Sto.varF val.length = q := ⟨_, rfl⟩
          obtain ⟨P5, hP5⟩ : ∃ q, P4 ++ val = q := ⟨_, rfl⟩
          have hl4' : P4.length ≤ 70061 := by rw [← hP4]; simp only [List.length_append]; omega
          have HP4 := Lib.hid hP4
          have HP5 := Lib.hid hP5
          have HE := Lib.hid (show Sto.varF l.length ++ (l.take (k + 1)).flatMap Sto.enc1 = P5 by rw [HN2.out, ← HP5.out, ← HP4.out, ← HP3.out, ← HP2.out, ← HP1.out]; simp [Sto.enc1, Sto.counted])
          clear hP4 hP5 d0 d1 hb9 hO9 hk9
          refine Canon.region [5, 6] [(⟨B, 2, none⟩, .slice Av val.length cv)] [(8, 0)] (.hold [0, 1, 7, 2, 3, 4, 8] (.loud 5 (.loud 6 (.seg [9, 10] .stop)))) (by kernel_rfl) (by kernel_rfl) (by repeat (first | (with_reducible exact Safe.body) | (with_reducible apply Safe.then) | (with_reducible apply Safe.inBlock) | (dsimp +zetaDelta only))) ?_
          simp only [Canon.pick, Canon.wpPlan, List.getElem?_toArray, List.getElem?_cons_zero, List.getElem?_cons_succ]
          have KD : Keeps (fun _ => False) w9 w9.drew := (Keeps.refl _ w9).drew
          have HBx := Lib.hid (KD.heap HB9.out (fun h => h))
          have HOx := Lib.hid (HO9.out.kept KD (fun _ _ h => h))
          have HKx := Lib.hid (HK9.out.trans KD (fun _ _ h => h))
          have HRVx := Lib.hid ((HRVd.out.kept HKx9.out (fun j h h' => by omega)).kept KD (fun _ _ h => h))
          have hBx : B < w9.drew.heap.size := hz9
          generalize w9.drew = wx at *
          have HLy := Lib.hid (fun (x : World) (h : x.heap[B]? = some (.cells [Value.string sk, .bool false, .slice Av val.length cv].toArray 41 (0, 0))) => (by
            intro p hp
            rw [List.mem_singleton] at hp
            subst hp
            exact (cell_of_row x _ 2 _ _ _ h).trans rfl : Cells [(⟨B, 2, none⟩, Value.slice Av val.length cv)] x))
          have e2 : wx.cell? ⟨B, 2, none⟩ = some (.slice Av val.length cv) := cell_of_row wx _ 2 _ _ _ HBx.out
          clear KD d2
          refine ⟨HLy.out _ HBx.out, ?_⟩
          go_wp2_with (go_at_call 40; refine Rets.use (HVv.out _) ?_; rintro v10 w10 hO10)
          have HB10 := Lib.hid (hO10.2.heap HBx.out (fun h => h))
          have hz10 := hO10.2.size
          have e3 : w10.cell? ⟨B, 2, none⟩ = some (.slice Av val.length cv) := cell_of_row w10 _ 2 _ _ _ HB10.out
          refine ⟨HLy.out _ HB10.out, ?_⟩
          go_wp2_with ((with_reducible refine at_ 49 rfl ?_); go_must (refine app_rd (ok := fun j => w.heap.size ≤ j ∧ j ≠ B) rfl _ _ rfl v9 P3 rfl (HOx.out.kept hO10.2 (fun _ _ h => h)) v10 _ (Sto.varF val.length) rfl hO10.1.rd rfl (by omega) ?_); intro v11 w11 hO11 hk11; rw [HP4.out] at hO11)
          have HB11 := Lib.hid (hk11.heap HB10.out (fun h => h.2 rfl))
          have hz11 := hk11.size
          have HO11 := Lib.hid (hO11.mono (ok' := fun j => w.heap.size ≤ j ∧ j ≠ B) (fun j _ h => by rcases h with h | h; exact h; exact ⟨by omega, by omega⟩))
          have HRV11 := Lib.hid ((HRVx.out.kept hO10.2 (fun _ _ h => h)).kept hk11 (fun j h h' => by omega))
          have HKx11 := Lib.hid (hO10.2.mono (S' := fun j => w.heap.size ≤ j ∧ j ≠ B) (fun _ _ h => h.elim) |>.trans hk11 (fun _ _ h => h))
          clear hO10 hk11 hO11
          refine ⟨HLy.out _ HB11.out, ?_⟩
          go_wp2_with ((with_reducible refine at_ 52 rfl ?_); go_must (refine app_rd (ok := fun j => w.heap.size ≤ j ∧ j ≠ B) rfl _ _ rfl v11 P4 rfl HO11.out (.slice Av val.length cv) _ val rfl HRV11.out rfl (by omega) ?_); intro v12 w12 hO12 hk12; rw [HP5.out] at hO12)
          refine ⟨by rfl, ⟨fun _ => rfl, trivial⟩, ?_⟩
          have HO12 := Lib.hid (hO12.mono (ok' := fun j => w.heap.size ≤ j) (fun j _ h => by rcases h with h | h; exact h.1; omega))
          have HK12 := Lib.hid ((HKx.out.mono (S' := fun j => w.heap.size ≤ j) (fun _ _ h => h.elim)).trans (HKx11.out.trans hk12 (fun _ _ h => h)) (fun j _ h => h.1) |>.mono (S' := fun _ => False) (fun j hj h => by omega))
          clear hO12 hk12
          go_wp2
          go_roundw
          case rel => exact ⟨k + 1, by omega, by go_num, HK12.out, by rw [HE.out]; exact HO12.out⟩
          case measure => simp [intOf]; omega
      · obtain rfl : k = l.length := by omega
        rw [List.take_length] at hO
        obtain ⟨Ao, co, rfl, _⟩ := hO.slice
        have HO := Lib.hid hO
        clear hkr hO
        go_wp2
        go_ret2
        rw [HZ.out]
        exact ⟨HKr.out, _, rfl, HO.out⟩
  · have HZ := Lib.hid (show Sto.enc l = ([], Sto.chk l) by unfold Sto.enc; rw [if_pos hz])
    have hq : (Sto.chk l != 0) = true := by simpa using hz
    generalize Sto.chk l = e at *
    clear h hB hz
    go_enter Try.func12, Try.ntmps12
    go_wp2_with (first
      | (go_at_call 18; refine Rets.use HCk.out ?_; rintro _ w1 ⟨rfl, hk1⟩))
    go_ret2
    rw [HZ.out]
    exact ⟨hk1, .slice none 0 0, rfl, OwnRow.nil _ _ _ _⟩
end Go.Proofs.Ytbiohidelhfaiaa
