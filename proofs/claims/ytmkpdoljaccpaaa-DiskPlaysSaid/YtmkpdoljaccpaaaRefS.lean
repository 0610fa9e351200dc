/-
  The document's disk: what is there becomes sure.
-/
import Derived.Test.YtmkpdoljaccpaaaRefW
namespace Go.Proofs.Ytmkpdoljaccpaaa
open Go.RowKit Go.Canon Go.Mem Go.Args
open Go.Disk (St)
set_option linter.unusedVariables false
set_option linter.unusedSimpArgs false
theorem settled_step {l : List Wr} {i : Nat} (h : i < l.length) : settled (l.drop i) = if hasAt (l.drop (i + 1)) l[i].at_ = true then settled (l.drop (i + 1)) else { l[i] with sure := true } :: settled (l.drop (i + 1)) := by
  rw [List.drop_eq_getElem_cons h]; rfl
theorem has_more {l : List Wr} {i q : Nat} (h : q < l.length) (hi : i ≤ q) (a : Int) : hasAt ((l.take (q + 1)).drop i) a = (hasAt ((l.take q).drop i) a || l[q].at_ == a) := by
  rw [List.take_add_one, List.getElem?_eq_getElem h, List.drop_append_of_le_length (by rw [List.length_take]; omega), hasAt_app]
  simp [hasAt]
/-- The end of a function without results. -/
theorem void_end {fn : Func} {Q : Ending → World → Prop} {a : Act} {w : World} (hr : fn.results = #[]) (hd : a.defers = []) (hR : Q (.returned (.tuple #[])) w) : bodyPost Try.prog fn Q .normal a w := bodyPost_end (by simp [results, hr]) hd hR
/-- What a call leaves that makes the row anew. -/
def SPost (w : World) (x : Nat) (T : Nat → Prop) (r : RefD) : Value → World → Prop := fun v w' => Keeps (fun k => k = x) w w' ∧ ∃ R' : Nat → Prop, RefMem w' x R' T r ∧ (∀ k, R' k → w.heap.size ≤ k ∧ k < w'.heap.size)
set_option maxHeartbeats 3200000 in
set_option maxRecDepth 100000 in
theorem settle_c {w : World} {x : Nat} {R T : Nat → Prop} {r : RefD} (h : RefMem w x R T r) (hT : ∀ k, T k → k < w.heap.size) (hlen : r.l.length ≤ 1000000) :
    Calls Try.prog 68 #[.pointer (some ⟨x, 0, none⟩)] w (Rets (SPost w x T { r with l := settled r.l })) := by
  obtain ⟨v, cs, hbx, nR, nT, hRT, hO, hW⟩ := h
  have c1 : w.cell? ⟨x, 1, none⟩ = some v := (cell_of_row w x 1 _ _ _ hbx).trans rfl
  have HBx := Lib.hid hbx
  have HO := Lib.hid hO
  have HW := Lib.hid hW
  have hxw : x < w.heap.size := lt_of hbx
  obtain ⟨A, c, rfl, hc, _⟩ := hO.slice
  clear hbx hO hW
  obtain ⟨rn, l, rleft, rpow⟩ := r
  simp only at *
  go_enter Try.func68, Try.ntmps68
  go_wp2
  go_loopw [2, 3] (fun lv iv wr => ∃ (i : Nat) (out : List Wr) (cs' : List Value), i ≤ l.length ∧ iv = .int .i64 i ∧ out.length ≤ i ∧ Hid (out ++ settled (l.drop i) = settled l) ∧ OwnRow wr (fun k => w.heap.size ≤ k) 109 3 lv out.length cs' ∧ WrsRd wr T cs' out ∧ Keeps (fun _ => False) w wr) (fun _ iv _ => l.length - (intOf iv).toNat)
  case atStart => exact ⟨0, [], [], Nat.zero_le _, rfl, Nat.le_refl _, Lib.hid rfl, OwnRow.nil _ _ _ _, ⟨rfl, fun i p hi => by simp at hi⟩, Keeps.refl _ w⟩
  case round =>
    obtain ⟨i, out, cs', hi, rfl, hol, HF, hOo, hWo, hK⟩ := hrel
    have HOo := Lib.hid hOo
    have HWo := Lib.hid hWo
    have HK := Lib.hid hK
    obtain ⟨Ao, co, rfl, hco, _⟩ := hOo.slice
    clear hOo hWo
    by_cases hlt : i < l.length
    · obtain ⟨g, cap, cur, e, _, _, _, _, _, _⟩ := HO.out.form (by omega)
      cases e
      obtain ⟨u, a0, a1, a2, hu⟩ := HW.out.at HO.out rfl (List.getElem?_eq_getElem hlt)
      obtain ⟨Au, cu, rfl, _⟩ := hu.slice
      have HU := Lib.hid hu
      have HA0 := Lib.hid a0
      have HA1 := Lib.hid a1
      have HC1 := Lib.hid c1
      have HS := Lib.hid (settled_step hlt)
      have HM := Lib.hid (fun q (h : q < l.length) (hi : i + 1 ≤ q) => has_more h hi l[i].at_)
      generalize l[i] = p at *
      rename World => w1
      clear a0 a1 a2 hu c1
      have c1 := HK.out.cell HC1.out (fun h => h)
      go_wp2
      clear c1 hK
      go_loopw [4, 5] (fun lv kv wr => ∃ (q : Nat) (bv : Bool), i + 1 ≤ q ∧ q ≤ l.length ∧ kv = .int .i64 q ∧ lv = .bool bv ∧ Hid (bv = hasAt ((l.take q).drop (i + 1)) p.at_) ∧ Keeps (fun _ => False) w1 wr) (fun _ kv _ => l.length - (intOf kv).toNat)
      case atStart => exact ⟨i + 1, false, Nat.le_refl _, hlt, by go_num, rfl, Lib.hid (by rw [List.drop_eq_nil_of_le (by rw [List.length_take]; omega)]; rfl), Keeps.refl _ w1⟩
      case round =>
        obtain ⟨q, bv, hq1, hq2, rfl, rfl, HBv, hK2⟩ := hrel
        have HK2 := Lib.hid hK2
        have hK' := HK.out.trans hK2 (fun _ _ h => h)
        have c1 := hK'.cell HC1.out (fun h => h)
        clear hK2
        by_cases hlq : q < l.length
        · have HMq := Lib.hid (HM.out q hlq hq1)
          obtain ⟨u2, b0, _, _, _⟩ := HW.out.at HO.out rfl (List.getElem?_eq_getElem hlq)
          have b0 := hK'.cell b0 (fun h => h)
          have a0 := hK'.cell HA0.out (fun h => h)
          clear hK'
          generalize l[q] = p2 at *
          have go : ∀ bv', Hid (bv' = (bv || p2.at_ == p.at_)) → Hid (bv' = hasAt ((l.take (q + 1)).drop (i + 1)) p.at_) := fun bv' h => by
            have := HMq.out
            exact Lib.hid (by rw [this, h.out, HBv.out])
          cases bv with
          | true =>
            have HN := Lib.hid (go true (Lib.hid rfl))
            clear go HBv HMq
            go_wp2
            refine Canon.row [0, 1, 2, 3, 4, 6, 10, 11, 12, 14, 5, 7, 8, 9, 13, 15, 16, 17, 18, 19, 20] (by kernel_rfl) (by kernel_rfl) (by repeat (first | (with_reducible exact Safe.body) | (with_reducible apply Safe.then) | (with_reducible apply Safe.inBlock) | (dsimp +zetaDelta only))) ?_
            simp only [Canon.pick, Canon.wpPlan, List.getElem?_toArray, List.getElem?_cons_zero, List.getElem?_cons_succ]
            go_wp2
            refine ⟨by rfl, trivial, ?_⟩
            go_wp2
            go_roundw
            case rel => exact ⟨q + 1, true, by omega, hlq, by go_num, rfl, HN.out, HK2.out.drew⟩
            case measure => simp [intOf]; omega
          | false =>
            have HN := Lib.hid (go (p2.at_ == p.at_) (Lib.hid rfl))
            clear go HBv HMq
            go_wp2
            refine Canon.row [0, 1, 2, 3, 4, 6, 10, 11, 12, 14, 5, 7, 8, 9, 13, 15, 16, 17, 18, 19, 20] (by kernel_rfl) (by kernel_rfl) (by repeat (first | (with_reducible exact Safe.body) | (with_reducible apply Safe.then) | (with_reducible apply Safe.inBlock) | (dsimp +zetaDelta only))) ?_
            simp only [Canon.pick, Canon.wpPlan, List.getElem?_toArray, List.getElem?_cons_zero, List.getElem?_cons_succ]
            have KD := (Keeps.refl (fun _ => False) wr).drew
            have c1 := KD.cell c1 (fun h => h)
            have a0 := KD.cell a0 (fun h => h)
            have b0 := KD.cell b0 (fun h => h)
            go_wp2
            refine ⟨by rfl, trivial, ?_⟩
            go_wp2
            go_roundw
            case rel => exact ⟨q + 1, _, by omega, hlq, by go_num, rfl, HN.out, HK2.out.drew⟩
            case measure => simp [intOf]; omega
        · obtain rfl : q = l.length := by omega
          rw [List.take_length] at HBv
          have HBs := Lib.hid HBv.out.symm
          rw [HBs.out] at HS
          have HOo2 := Lib.hid (HOo.out.kept HK2.out (fun _ _ h => h))
          have HWo2 := Lib.hid (HWo.out.kept HK2.out (fun _ _ h => h))
          have HK3 := Lib.hid hK'
          have a0 := hK'.cell HA0.out (fun h => h)
          have a1 := hK'.cell HA1.out (fun h => h)
          have HU2 := Lib.hid (HU.out.kept hK' (fun _ _ h => h))
          have hsz := hK'.size
          clear hK' HM HA0 HA1 HU HOo HWo HK HK2 HBv
          cases bv with
          | true =>
            rw [if_pos rfl] at HS
            clear a0 a1
            go_wp2
            go_roundw
            case rel => exact ⟨i + 1, out, cs', by omega, by go_num, by omega, Lib.hid (by rw [← HS.out]; exact HF.out), HOo2.out, HWo2.out, HK3.out⟩
            case measure => simp [intOf]; omega
          | false =>
            rw [if_neg (by simp)] at HS
            go_wp2
            refine Canon.row [0, 1, 2, 3, 5, 9, 10, 11, 13, 4, 6, 7, 8, 12, 14, 15, 16, 17, 18, 19, 20] (by kernel_rfl) (by kernel_rfl) (by repeat (first | (with_reducible exact Safe.body) | (with_reducible apply Safe.then) | (with_reducible apply Safe.inBlock) | (dsimp +zetaDelta only))) ?_
            simp only [Canon.pick, Canon.wpPlan, List.getElem?_toArray, List.getElem?_cons_zero, List.getElem?_cons_succ]
            have KD := (Keeps.refl (fun _ => False) wr).drew
            have c1 := KD.cell c1 (fun h => h)
            have a0 := KD.cell a0 (fun h => h)
            have a1 := KD.cell a1 (fun h => h)
            have HOo3 := Lib.hid (HOo2.out.kept KD (fun _ _ h => h))
            have HWo3 := Lib.hid (HWo2.out.kept KD (fun _ _ h => h))
            have HU3 := Lib.hid (HU2.out.kept KD (fun _ _ h => h))
            have HK4 := Lib.hid (HK3.out.trans KD (fun _ _ h => h))
            have hsd : wr.drew.heap.size = wr.heap.size := rfl
            clear HOo2 HWo2 HU2 HK3 KD
            generalize wr.drew = wd at *
            go_wp2_with (first
              | ((with_reducible refine at_ 67 rfl ?_); go_must (refine step_append_rd (ok2 := fun k => wd.heap.size ≤ k) rfl _ _ _ rfl 109 _ 3 40 Try.underlying93 row_rwr rfl (by decide) (.slice Ao out.length co) out.length cs' rfl (HOo3.out.kept hk7 (fun _ _ h => h)) _ 1 [.int .i64 p.at_, .slice Au p.b.length cu, .bool true] rfl (lit_wr hb7 (Nat.le_refl _)) rfl (by intro y hy; simp at hy; rcases hy with rfl | rfl | rfl <;> rfl) (by simp only [maxLen]; omega) (by omega) ?_); intro v8 w8 hO8 hk8; obtain ⟨A8, c8, rfl, _⟩ := hO8.slice)
              | ((with_reducible refine at_ 66 rfl ?_); go_must (refine step_lit rfl 93 _ 1 rfl [.agg #[.int .i64 p.at_, .slice Au p.b.length cu, .bool true]] rfl rfl (by decide) 109 _ 3 Try.underlying93 row2_rwr (by decide) (by decide) (by intro v hv; rw [List.mem_singleton] at hv; subst hv; rfl) ?_); intro w7 hb7 hk7 hs7))
            have s7 := hk7.size
            have s8 := hk8.size
            have HK78 := Lib.hid ((hk7.mono (S' := fun k => w.heap.size ≤ k) (fun _ _ h => h.elim)).trans hk8 (fun k _ h => HOo3.out.2 k h))
            have HO8 := Lib.hid (hO8.mono (fun k _ h => (by rcases h with h | h; exact h; omega : w.heap.size ≤ k)))
            have HW8 := Lib.hid ((HWo3.out.kept HK78.out (fun k h h' => by have := hT k h; omega)).push (p := ⟨p.at_, p.b, true⟩) (HU3.out.kept HK78.out (fun k h h' => by have := hT k h; omega)))
            clear hO8
            refine ⟨by rfl, trivial, ?_⟩
            go_wp2
            go_roundw
            case rel => exact ⟨i + 1, out ++ [⟨p.at_, p.b, true⟩], _, by omega, by go_num, by rw [List.length_append, List.length_singleton]; omega, Lib.hid (by rw [List.append_assoc, ← HF.out, HS.out]; rfl), by rw [List.length_append, List.length_singleton]; exact HO8.out, HW8.out, HK4.out.trans HK78.out (fun k hk h => by omega)⟩
            case measure => simp [intOf]; omega
    · obtain rfl : i = l.length := by omega
      have HE := Lib.hid (show out = settled l by have := HF.out; rwa [List.drop_length, show settled [] = [] from rfl, List.append_nil] at this)
      have hbw := HK.out.heap HBx.out (fun h => h)
      have c1 := HK.out.cell c1 (fun h => h)
      go_wp2_with ((with_reducible refine at_store 93 (.tmp 71) (.tmp 69) rfl ?_); go_must (refine step_store1 rfl _ _ _ rfl x 1 (.slice Ao out.length co) _ _ rfl rfl rfl hbw (by simp) info_rwrs ?_); intro w9 hb9 hk9 hs9)
      refine void_end rfl rfl ?_
      have sz := HK.out.size
      refine ⟨(HK.out.mono (fun _ _ h => h.elim)).trans hk9 (fun _ _ h => h), fun k => w.heap.size ≤ k ∧ k < wr.heap.size, ⟨_, cs', hb9, fun h => ?_, nT, fun k h h' => ?_, ?_, ?_⟩, fun k h => ⟨h.1, by have := hk9.size; omega⟩⟩
      · omega
      · have := hT k h'; omega
      · simp only
        rw [← HE.out]
        exact (HOo.out.mono (fun k hk h => ⟨h, hk⟩)).kept hk9 (fun k h e => by omega)
      · simp only
        rw [← HE.out]
        exact HWo.out.kept hk9 (fun k h e => by subst e; exact nT h)
set_option maxHeartbeats 1600000 in
theorem rsync_c {w : World} {x : Nat} {R T : Nat → Prop} {r : RefD} (h : RefMem w x R T r) (hR : ∀ k, R k → k < w.heap.size) (hT : ∀ k, T k → k < w.heap.size) (hlen : r.l.length ≤ 1000000) (hl : -1 ≤ r.left ∧ r.left ≤ 9223372036854775807) :
    Calls Try.prog 50 #[.pointer (some ⟨x, 0, none⟩)] w (Rets (RPost w x R T (.int .i64 r.sync.1) r.sync.2)) := by
  have HI := Lib.hid h
  have HSame := Lib.hid (show ∃ R' T' : Nat → Prop, RefMem w x R' T' r ∧ (∀ k, R' k → (R k ∨ w.heap.size ≤ k) ∧ k < w.heap.size) ∧ (∀ k, T' k → (T k ∨ w.heap.size ≤ k) ∧ k < w.heap.size) from ⟨R, T, h, fun k hk => ⟨.inl hk, hR k hk⟩, fun k hk => ⟨.inl hk, hT k hk⟩⟩)
  obtain ⟨v, cs, hbx, nR, nT, hRT, hO, hW⟩ := h
  have c3 : w.cell? ⟨x, 3, none⟩ = some (.bool r.power) := (cell_of_row w x 3 _ _ _ hbx).trans rfl
  clear hbx hO hW
  cases hp : r.power with
  | false =>
    have HG := Lib.hid (show r.sync = (14, r) by simp [RefD.sync, hp])
    rw [hp] at c3
    clear hp
    go_enter Try.func50, Try.ntmps50
    go_wp2
    go_ret
    rw [HG.out]
    exact ⟨rfl, Keeps.refl _ _, HSame.out⟩
  | true =>
    have HP := Lib.hid (show ¬ r.power = false by rw [hp]; simp)
    rw [hp] at c3
    clear hp
    have HGo := Lib.hid (goes_c HI.out hl)
    have hgl : r.goes.2.l = r.l ∧ r.goes.2.n = r.n := by unfold RefD.goes; split <;> (try split) <;> exact ⟨rfl, rfl⟩
    cases hg : r.goes.1 with
    | false =>
      have HG := Lib.hid (show r.sync = (14, r.goes.2) by unfold RefD.sync; rw [if_neg HP.out, if_neg (by rw [hg]; simp)])
      rw [hg] at HGo
      clear hg hgl
      generalize r.goes.2 = r2 at *
      go_enter Try.func50, Try.ntmps50
      go_wp2_with (go_at_call 67; refine Rets.use HGo.out ?_; rintro v1 w1 ⟨rfl, hr1, hk1⟩)
      go_ret
      rw [HG.out]
      exact ⟨rfl, hk1.mono (fun k _ e => .inl e), R, T, hr1, fun k hk => ⟨.inl hk, Nat.lt_of_lt_of_le (hR k hk) hk1.size⟩, fun k hk => ⟨.inl hk, Nat.lt_of_lt_of_le (hT k hk) hk1.size⟩⟩
    | true =>
      have HG := Lib.hid (show r.sync = (0, { r.goes.2 with l := settled r.l }) by unfold RefD.sync; rw [if_neg HP.out, if_pos hg])
      rw [hg] at HGo
      have hll : r.goes.2.l.length ≤ 1000000 := by rw [hgl.1]; exact hlen
      rw [← hgl.1] at HG
      clear hg hgl
      generalize r.goes.2 = r2 at *
      go_enter Try.func50, Try.ntmps50
      go_wp2_with (first
        | (go_at_call 68; refine Rets.use (settle_c hr1 (fun k hk => Nat.lt_of_lt_of_le (hT k hk) hk1.size) hll) ?_; rintro v2 w2 ⟨hk2, R', hr2, hR'⟩)
        | (go_at_call 67; refine Rets.use HGo.out ?_; rintro v1 w1 ⟨rfl, hr1, hk1⟩))
      go_ret
      rw [HG.out]
      have s1 := hk1.size
      have s2 := hk2.size
      exact ⟨rfl, (hk1.trans hk2 (fun k _ e => e)).mono (fun k _ e => .inl e), R', T, hr2, fun k hk => ⟨.inr (by have := (hR' k hk).1; omega), (hR' k hk).2⟩, fun k hk => ⟨.inl hk, by have := hT k hk; omega⟩⟩
end Go.Proofs.Ytmkpdoljaccpaaa
