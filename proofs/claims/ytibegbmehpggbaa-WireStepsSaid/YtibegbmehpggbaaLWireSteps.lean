/-
  WireSteps: the walk.
-/
import Derived.Test.YtibegbmehpggbaaWireSQ
namespace Go.Proofs.Ytibegbmehpggbaa
open Go.RowKit Go.Canon Go.Mem Go.Args
set_option linter.unusedVariables false
set_option linter.unusedSimpArgs false
theorem DIs.small {w : World} {S : Nat → Prop} {g : Nat} {d : DR} (h : DIs w S g d) : DIs w (fun k => S k ∧ k < w.heap.size) g d := by
  obtain ⟨vb, vx, R1, R2, h⟩ := h.parts2
  exact ⟨vb, vx, R1, R2, h⟩
theorem DIs.b_cell {w : World} {S : Nat → Prop} {g : Nat} {d : DR} (h : DIs w S g d) : ∃ A c, w.cell? ⟨g, 0, none⟩ = some (.slice A d.b.length c) ∧ g < w.heap.size := by
  obtain ⟨vb, vx, R1, R2, h⟩ := h
  obtain ⟨A, c, rfl, _⟩ := h.ob.slice
  exact ⟨A, c, (cell_of_row w g 0 _ _ _ h.blk).trans rfl, lt_of h.blk⟩
theorem DIs.b_nil {w : World} {S : Nat → Prop} {g : Nat} {d : DR} (h : DIs w S g { d with b := [], done := false, x := Wire.zeroR }) : ∃ A c, w.cell? ⟨g, 0, none⟩ = some (.slice A 0 c) ∧ g < w.heap.size := h.b_cell
/-- The two readers in memory, side by side, apart. -/
structure Both (W w : World) (g gd : Nat) (s : Wire.S) (d : DR) (n : Nat) : Prop where
  rel : Rel s d n
  mem : ∃ S1 S2, WIs w S1 g s ∧ DIs w S2 gd d ∧ (∀ k, S1 k → ¬ S2 k) ∧ (∀ k, S1 k → W.heap.size ≤ k ∧ k < w.heap.size) ∧ (∀ k, S2 k → W.heap.size ≤ k ∧ k < w.heap.size)
theorem Both.kept {W w w' : World} {g gd : Nat} {s : Wire.S} {d : DR} {n : Nat} (h : Both W w g gd s d n) {T : Nat → Prop} (hk : Keeps T w w') (hT : ∀ k, T k → w.heap.size ≤ k) : Both W w' g gd s d n := by
  obtain ⟨S1, S2, h1, h2, h3, h4, h5⟩ := h.mem
  refine ⟨h.rel, S1, S2, h1.kept hk (fun k hk2 ht => ?_), h2.kept hk (fun k hk2 ht => ?_), h3, fun k hk2 => ⟨(h4 k hk2).1, Nat.lt_of_lt_of_le (h4 k hk2).2 hk.size⟩, fun k hk2 => ⟨(h5 k hk2).1, Nat.lt_of_lt_of_le (h5 k hk2).2 hk.size⟩⟩
  · have := (h4 k hk2).2; have := hT k ht; omega
  · have := (h5 k hk2).2; have := hT k ht; omega
theorem Both.idle {W w : World} {g gd : Nat} {s : Wire.S} {d : DR} {n : Nat} (h : Both W w g gd s d n) : ∃ S, WIs w S g s := by
  obtain ⟨S1, S2, h1, _⟩ := h.mem
  exact ⟨S1, h1⟩
set_option maxHeartbeats 1600000 in
set_option maxRecDepth 100000 in
theorem steps_in (W : World) (v : Value) (b0 : List Int) (hB0 : IsB b0) (hr : Rd W (fun k => k < W.heap.size) v b0.length (Disk.bytes8 b0)) (vt : Value) (ts : List Bool) (ht : Rd W (fun k => k < W.heap.size) vt ts.length (ts.map Value.bool)) (htl : ts.length ≤ maxLen) : Calls Try.prog 5 #[v, vt] W (Rets (Yes W)) := by
  have HCut := Lib.hid (cut_c v b0 hr 300)
  obtain ⟨l, hll⟩ : ∃ l, b0.take 300 = l := ⟨_, rfl⟩
  rw [hll] at HCut
  have HlB := Lib.hid (show IsB l by rw [← hll]; exact hB0.take _)
  have hln : l.length ≤ 300 := by rw [← hll, List.length_take]; omega
  obtain ⟨At, ct, rfl, _⟩ := ht.slice
  have HTs := Lib.hid ht
  clear hll hr ht hB0
  go_enter Try.func5, Try.ntmps5
  go_wp2_with (first
    | (go_at_call 11; refine Rets.use HCut.out ?_; rintro vc w0 ⟨hrc, rfl⟩; obtain ⟨Ac, cc, rfl, _⟩ := hrc.slice; have HRc := Lib.hid hrc; clear hrc)
    | (go_at_call 18; refine Rets.use (newW_c _) ?_; rintro v1 w1 ⟨hk1, g, hg, rfl, hW1⟩; have HW1 := Lib.hid hW1; have HK1 := Lib.hid hk1; clear hW1 hk1))
  refine name_ fun w2 hw2 => ?_
  obtain ⟨hb2, hk2, hs2⟩ := alloc1 hw2
  have hs1 := HK1.out.size
  have HK02 := Lib.hid ((HK1.out.trans hk2 (fun _ _ h => h)).mono (S' := fun k => W.heap.size ≤ k) (fun _ _ h => h.elim))
  have HBo0 := Lib.hid (show Both W w2 g w1.heap.size Wire.new DR.new 0 from ⟨Rel.new, fun k => W.heap.size ≤ k ∧ k < w1.heap.size, fun k => k = w1.heap.size, (HW1.out.small).kept hk2 (fun _ _ h => h), ⟨.slice none 0 0, .slice none 0 0, fun _ => False, fun _ => False, ⟨hb2, rfl, OwnRow.nil _ _ _ _, OwnRow.nil _ _ _ _, fun _ h => h.elim, fun _ h => h.elim, fun _ h => h.elim⟩⟩, fun k h h' => by omega, fun k h => by omega, fun k h => by omega⟩)
  clear hw2 hb2 hk2 HW1
  generalize w1.heap.size = gd at *
  go_loopw [7, 8, 9, 10, 11, 12, 13, 14, 15] (fun i q0 q1 q2 q3 q4 q5 q6 q7 wr => ∃ (k n : Nat) (s : Wire.S) (d : DR), k ≤ l.length ∧ i = .int .i64 (k : Int) ∧ Hid (n ≤ k) ∧ Hid (Both W wr g gd s d n) ∧ Hid (Keeps (fun k => W.heap.size ≤ k) W wr)) (fun i _ _ _ _ _ _ _ _ _ => l.length - (intOf i).toNat)
  case atStart => exact ⟨0, 0, Wire.new, DR.new, Nat.zero_le _, rfl, Lib.hid (Nat.le_refl _), HBo0, HK02⟩
  case round =>
    obtain ⟨k, n, s, d, hk, rfl, HNk, HBo, HKr⟩ := hrel
    have hnk := HNk.out
    by_cases hlt : k < l.length
    · obtain ⟨bl, ol, cl', e1, _⟩ := HRc.out.at (by intro e; have := congrArg List.length e; rw [Disk.bytes8_len, List.length_nil] at this; omega)
      cases e1
      have hbyte := at_byte (HRc.out.kept HKr.out (fun k h h' => by omega)) hlt
      have hxb := HlB.out _ (List.getElem_mem hlt)
      generalize l[k] = b at *
      obtain ⟨xb1, xb2⟩ := hxb
      obtain ⟨he, hrel, hhd, hne⟩ := HBo.out.rel.put ⟨xb1, xb2⟩
      obtain ⟨S1, S2, m1, m2, m3, m4, m5⟩ := HBo.out.mem
      have M1 := Lib.hid m1
      have M2 := Lib.hid m2
      have M3 := Lib.hid m3
      have M4 := Lib.hid m4
      have M5 := Lib.hid m5
      have HG := Lib.hid HBo.out.rel.good
      have HDb := Lib.hid HBo.out.rel.byte
      have hdl := HBo.out.rel.len
      obtain ⟨p, hp⟩ : ∃ p, Wire.put s b = p := ⟨_, rfl⟩
      obtain ⟨q, hq⟩ : ∃ q, d.put b = q := ⟨_, rfl⟩
      rw [hp, hq] at he hrel
      rw [hp] at hhd
      rw [hq] at hne
      have HP := Lib.hid hp
      have HQ := Lib.hid hq
      have HRel := Lib.hid hrel
      clear hp hq m1 m2 m3 m4 m5 hrel
      obtain ⟨⟨a, e⟩, s'⟩ := p
      obtain ⟨⟨a', e'⟩, d'⟩ := q
      obtain ⟨rfl, rfl⟩ := Prod.mk.inj he
      simp only at hhd hne
      have hi0 : decide (s'.head = 0) = false := decide_eq_false (by omega)
      have HI0 := Lib.hid hi0
      have hbl : 0 < d'.b.length := by cases h : d'.b with | nil => exact (hne h).elim | cons => simp
      have hb0 : (((d'.b.length : Nat) : Int) == 0) = false := by rw [beq_eq_false_iff_ne]; omega
      have hee : (e != e) = false := by simp
      have haa : (a != a) = false := by simp
      clear he hhd hne hi0
      go_wp2_with (first
        | (go_at_call 19; refine Rets.use (putW_c M1.out HG.out (by omega) b ⟨xb1, by omega⟩) ?_; rw [HP.out]; rintro v3 w3 ⟨rfl, h3, hk3⟩; have HW3 := Lib.hid h3; have HK3 := Lib.hid hk3; have HD3 := Lib.hid (M2.out.kept hk3 (fun k h h' => M3.out k h' h)); have hbyte := hk3.cell hbyte (fun h => by have h2 := (M4.out bl h).1; have := HRc.out.lt; obtain ⟨_, _, _, e, _, hlt2, _⟩ := HRc.out.lt.at (by intro e; have := congrArg List.length e; rw [Disk.bytes8_len, List.length_nil] at this; omega); cases e; have := hlt2.1; omega); clear h3)
        | (go_at_call 20; refine Rets.use (rput_c HD3.out (by omega) HDb.out b ⟨xb1, xb2⟩) ?_; rw [HQ.out]; rintro v4 w4 ⟨rfl, h4, hk4⟩; have HD4 := Lib.hid h4; have HK4 := Lib.hid hk4; clear h4))
      have HB4 := Lib.hid (show Both W w4 g gd s' d' (n + 1) from ⟨HRel.out, fun k => (S1 k ∨ wr.heap.size ≤ k) ∧ k < w3.heap.size, fun k => (S2 k ∨ w3.heap.size ≤ k) ∧ k < w4.heap.size, (HW3.out.small).kept HK4.out (fun k h h' => by rcases h.1 with h2 | h2; exact M3.out k h2 h'; have := (M5.out k h').2; omega), HD4.out.small, fun k h h' => by rcases h'.1 with h2 | h2; (rcases h.1 with h3 | h3; exact M3.out k h3 h2; have := (M5.out k h2).2; omega); have := h.2; omega, fun k h => ⟨by have z0 := HKr.out.size; rcases h.1 with h2 | h2; exact (M4.out k h2).1; omega, by have z4 := HK4.out.size; have := h.2; omega⟩, fun k h => ⟨by have z0 := HKr.out.size; have z3 := HK3.out.size; rcases h.1 with h2 | h2; exact (M5.out k h2).1; omega, h.2⟩⟩)
      have HKw := Lib.hid (show Keeps (fun k => W.heap.size ≤ k) W w4 from (HKr.out.trans HK3.out (fun k _ h => (M4.out k h).1)).trans HK4.out (fun k _ h => (M5.out k h).1))
      clear HW3 HD4 HK3 HK4 M1 M2 M3 M4 M5 HG HDb HP HQ HBo HRel HKr
      obtain ⟨S1, S2, m1, m2, m3, m4, m5⟩ := HB4.out.mem
      obtain ⟨Ab, cb, cc0, hgl⟩ := m2.b_cell
      clear m1 m2 m3 m4 m5
      refine Canon.region [10] [(⟨gd, 0, none⟩, .slice Ab d'.b.length cb)] [(14, 0)] (.hold [0, 1, 2, 3, 4, 5, 6, 7, 8, 9, 11, 12, 13, 14, 15, 16] (.loud 10 (.seg [17, 18] .stop))) (by kernel_rfl) (by kernel_rfl) (by repeat (first | (with_reducible exact Safe.body) | (with_reducible apply Safe.then) | (with_reducible apply Safe.inBlock) | (dsimp +zetaDelta only))) ?_
      simp only [Canon.pick, Canon.wpPlan, List.getElem?_toArray, List.getElem?_cons_zero, List.getElem?_cons_succ]
      have KD : Keeps (fun _ => False) w4 w4.drew := ((Keeps.refl _ w4).drew)
      have cc0 := KD.cell cc0 (fun h => h)
      have HBd := Lib.hid (HB4.out.kept KD (fun _ h => h.elim))
      have HId := Lib.hid (HBd.out.idle)
      refine ⟨fun p hp => by simp at hp; subst hp; exact cc0, ?_⟩
      go_wp2_with (go_at_call 21; (refine Rets.use (idleW_is (b := false) (by obtain ⟨S, h⟩ := HId.out; exact ⟨S, _, h, HI0.out⟩)) ?_; rintro _ _ ⟨rfl, rfl⟩))
      refine ⟨fun p hp => by simp at hp; subst hp; exact cc0, ?_⟩
      go_wp2
      refine ⟨by rfl, ⟨fun _ => rfl, trivial⟩, ?_⟩
      have HK5 := Lib.hid ((HKw.out.trans KD (fun _ _ h => h.elim)))
      have hgl := Nat.lt_of_lt_of_le hgl KD.size
      clear HB4 HKw KD HId
      generalize w4.drew = w5 at *
      obtain ⟨S1, S2, m1, m2, m3, m4, m5⟩ := HBd.out.mem
      have M1 := Lib.hid m1
      have M2 := Lib.hid m2
      have M3 := Lib.hid m3
      have M4 := Lib.hid m4
      have M5 := Lib.hid m5
      have HRel := Lib.hid HBd.out.rel
      clear m1 m2 m3 m4 m5
      have hgz : W.heap.size ≤ g ∧ g < w5.heap.size := by obtain ⟨vl, vb, vc, R1, R2, R3, h2⟩ := M1.out.parts; exact M4.out g h2.own
      have hdz : W.heap.size ≤ gd ∧ gd < w5.heap.size := by obtain ⟨_, _, _, _, h2⟩ := M2.out; exact M5.out gd h2.own
      have hgS : ¬ S2 g := fun h => by obtain ⟨vl, vb, vc, R1, R2, R3, h2⟩ := M1.out.parts; exact M3.out g h2.own h
      have hdS : ¬ S1 gd := fun h => by obtain ⟨_, _, _, _, h2⟩ := M2.out; exact M3.out gd h h2.own
      have hgne : g ≠ gd := fun h => by obtain ⟨_, _, _, _, h1⟩ := M2.out; obtain ⟨vl, vb, vc, R1, R2, R3, h2⟩ := M1.out.parts; exact M3.out g h2.own (h ▸ h1.own)
      by_cases hts : ts = []
      · have hgt : ¬ (0 : Int) < (ts.length : Int) := by rw [hts]; decide
        clear hts
        have hxx := HRel.out.x
        have hdn := HRel.out.done
        have hXok := HRel.out.good
        cases hwh : s'.whole with
        | true =>
          rw [hwh] at hdn
          have hxy := hxx hwh
          have HXo := Lib.hid (show s'.x.Ok ∧ s'.x.body.length ≤ 1000000 from ⟨⟨hXok.xm, hXok.xt, hXok.xk, hXok.xb⟩, by have := hXok.bl; omega⟩)
          have HXe := Lib.hid hxy
          clear hxx hxy hXok
          go_wp2_with (first
            | (go_at_call 22; refine Rets.use (takeW_yes M1.out hwh) ?_; rintro v6 w6 ⟨vb6, hv6, hO6, hW6, hk6⟩; subst hv6; obtain ⟨A6, c6, rfl, _⟩ := hO6.slice; have HO6 := Lib.hid hO6; have HW6 := Lib.hid hW6; have HK6 := Lib.hid hk6; clear hO6 hW6 hk6)
            | ((with_reducible refine at_ 12 rfl ?_); go_must (refine step_alloc rfl _ rfl _ zq row_req rfl ?_); intro w7 hb7 hk7 hs7)
            | ((with_reducible refine at_store 26 (.tmp 12) (.tmp 82) rfl ?_); go_must (refine step_store rfl _ _ _ rfl w6.heap.size 0 (reqC s'.x (.slice A6 s'.x.body.length c6)) _ _ rfl rfl hb7 (by simp [zq, reqC]) (info_reqC _ _) (by simp [reqC, Value.oneCell']) ?_); intro w8 hb8 hk8 hs8; rw [put_whole (by rfl)] at hb8; have HB8 := Lib.hid hb8; have HK8 := Lib.hid (fresh_set (Keeps.refl _ w6) hk7 hk8); clear hb7 hk7 hb8 hk8)
            | (go_at_call 23; refine Rets.use (rtake_yes ((M2.out.kept HK6.out (fun k h h' => by have h2 : k = g := h'; subst h2; exact hgS h)).kept HK8.out (fun _ _ h => h)) hdn) ?_; rintro v9 w9 ⟨vb9, hv9, hO9, hD9, hk9⟩; subst hv9; obtain ⟨A9, c9, rfl, _⟩ := hO9.slice; have HO9 := Lib.hid hO9; have HD9 := Lib.hid hD9; have HK9 := Lib.hid hk9; clear hO9 hD9 hk9)
            | ((with_reducible refine at_ 14 rfl ?_); go_must (refine step_alloc rfl _ rfl _ zq row_req rfl ?_); intro w10 hb10 hk10 hs10)
            | ((with_reducible refine at_store 26 (.tmp 14) (.tmp 87) rfl ?_); go_must (refine step_store rfl _ _ _ rfl w9.heap.size 0 (reqC d'.x (.slice A9 d'.x.body.length c9)) _ _ rfl rfl hb10 (by simp [zq, reqC]) (info_reqC _ _) (by simp [reqC, Value.oneCell']) ?_); intro w11 hb11 hk11 hs11; rw [put_whole (by rfl)] at hb11; have HB11 := Lib.hid hb11; have HK11 := Lib.hid (fresh_set (Keeps.refl _ w9) hk10 hk11); clear hb10 hk10 hb11 hk11))
          obtain ⟨A0, cz, hcz, hlz⟩ := HD9.out.b_nil
          have HC11 := Lib.hid (HK11.out.cell hcz (fun h => h))
          clear hcz cc0
          refine Canon.region [11] [(⟨gd, 0, none⟩, .slice A0 0 cz)] [(15, 0)] (.seg [0, 1, 2, 3, 4, 5, 6, 7, 8, 9, 10, 12, 13, 14] (.hold [15, 16, 17] (.loud 11 (.seg [18, 19] .stop)))) (by kernel_rfl) (by kernel_rfl) (by repeat (first | (with_reducible exact Safe.body) | (with_reducible apply Safe.then) | (with_reducible apply Safe.inBlock) | (dsimp +zetaDelta only))) ?_
          simp only [Canon.pick, Canon.wpPlan, List.getElem?_toArray, List.getElem?_cons_zero, List.getElem?_cons_succ]
          have KE : Keeps (fun _ => False) w11 w11.drew := ((Keeps.refl _ w11).drew)
          have HK12 := Lib.hid (HK11.out.trans KE (fun _ _ h => h))
          have HB12 := Lib.hid (KE.heap HB11.out (fun h => h))
          have HC12 := Lib.hid (KE.cell HC11.out (fun h => h))
          clear HB11 HC11 KE HK11
          generalize w11.drew = w12 at *
          go_wp2_with (first
            | ((with_reducible refine at_ 93 rfl ?_); go_must (refine step_load rfl _ _ rfl w6.heap.size 0 (reqC s'.x (.slice A6 s'.x.body.length c6)) _ _ (0, 0) _ rfl (HK12.out.heap (HK9.out.heap HB8.out (fun h => by have h2 : w6.heap.size = gd := h; have := HK6.out.size; omega)) (fun h => h)) rfl Try.underlying26 rfl (info_reqC _ _) ?_))
            | ((with_reducible refine at_ 94 rfl ?_); go_must (refine step_load rfl _ _ rfl w9.heap.size 0 (reqC d'.x (.slice A9 d'.x.body.length c9)) _ _ (0, 0) _ rfl HB12.out rfl Try.underlying26 rfl (info_reqC _ _) ?_))
            | (go_at_call 15; refine Rets.use (same13_of s'.x HXo.out.1 (.slice A6 s'.x.body.length c6) (.slice A9 d'.x.body.length c9) (by rfl) (by rw [HXe.out]; rfl) ((((HO6.out.kept HK8.out (fun _ _ h => h)).kept HK9.out (fun k h h' => by have h2 : k = gd := h'; subst h2; exact hdS h.1)).kept HK12.out (fun _ _ h => h))).rd (by rw [HXe.out]; exact (HO9.out.kept HK12.out (fun _ _ h => h)).rd) HXo.out.2) ?_; rintro _ w13 ⟨rfl, hk13⟩))
          have hcz13 := hk13.cell HC12.out (fun h => h)
          have hsz : w5.heap.size ≤ w13.heap.size := Nat.le_trans HK6.out.size (Nat.le_trans HK8.out.size (Nat.le_trans HK9.out.size (Nat.le_trans HK12.out.size hk13.size)))
          have HWz := Lib.hid ((((HW6.out.kept HK8.out (fun _ _ h => h)).kept HK9.out (fun k h h' => hgne ((show k = g from h).symm.trans h'))).kept HK12.out (fun _ _ h => h)).kept hk13 (fun _ _ h => h))
          have HDz := Lib.hid (((HD9.out.kept HK12.out (fun _ _ h => h)).kept hk13 (fun _ _ h => h)))
          have HKz := Lib.hid ((((((HK5.out.trans HK6.out (fun q h h' => by have h2 : q = g := h'; omega)).trans HK8.out (fun _ _ h => h.elim)).trans HK9.out (fun q h h' => by have h2 : q = gd := h'; omega)).trans HK12.out (fun _ _ h => h.elim)).trans hk13 (fun _ _ h => h.elim)))
          refine ⟨fun p hp => by simp at hp; subst hp; exact hcz13, ?_⟩
          go_wp2_with (go_at_call 21; (refine Rets.use (idleW_is (b := true) ⟨_, _, HWz.out, rfl⟩) ?_; rintro _ _ ⟨rfl, rfl⟩))
          refine ⟨fun p hp => by simp at hp; subst hp; exact hcz13, ?_⟩
          go_wp2
          refine ⟨by rfl, ⟨fun _ => rfl, trivial⟩, ?_⟩
          go_wp2
          go_roundw
          case rel => exact ⟨k + 1, 0, Wire.new, _, by omega, by go_num, Lib.hid (Nat.zero_le _), Lib.hid ⟨HRel.out.take hwh, fun k => k = g, fun k => k = gd, HWz.out, HDz.out, fun k h h' => hgne ((show k = g from h).symm.trans h'), fun q h => by have h2 : q = g := h; subst h2; exact ⟨hgz.1, Nat.lt_of_lt_of_le hgz.2 hsz⟩, fun q h => by have h2 : q = gd := h; subst h2; exact ⟨hdz.1, Nat.lt_of_lt_of_le hdz.2 hsz⟩⟩, HKz⟩
          case measure => simp [intOf]; omega
        | false =>
          rw [hwh] at hdn
          clear hxx hXok
          go_wp2_with (first
            | (go_at_call 22; refine Rets.use (takeW_no M1.out hwh) ?_; rintro _ w6 ⟨rfl, hk6⟩; have HK6 := Lib.hid hk6; clear hk6)
            | ((with_reducible refine at_ 12 rfl ?_); go_must (refine step_alloc rfl _ rfl _ zq row_req rfl ?_); intro w7 hb7 hk7 hs7)
            | ((with_reducible refine at_store 26 (.tmp 12) (.tmp 82) rfl ?_); go_must (refine step_store rfl _ _ _ rfl w6.heap.size 0 (reqC Wire.zeroR (.slice none 0 0)) _ _ rfl rfl hb7 (by simp [zq, reqC]) (info_reqC _ _) (by simp [reqC, Value.oneCell']) ?_); intro w8 hb8 hk8 hs8; rw [put_whole (by rfl)] at hb8; have HB8 := Lib.hid hb8; have HK8 := Lib.hid (fresh_set (Keeps.refl _ w6) hk7 hk8); clear hb7 hk7 hb8 hk8)
            | (go_at_call 23; refine Rets.use (rtake_no ((M2.out.kept HK6.out (fun k h h' => h')).kept HK8.out (fun _ _ h => h)) hdn) ?_; rintro _ w9 ⟨rfl, hk9⟩; have HK9 := Lib.hid hk9; clear hk9)
            | ((with_reducible refine at_ 14 rfl ?_); go_must (refine step_alloc rfl _ rfl _ zq row_req rfl ?_); intro w10 hb10 hk10 hs10)
            | ((with_reducible refine at_store 26 (.tmp 14) (.tmp 87) rfl ?_); go_must (refine step_store rfl _ _ _ rfl w9.heap.size 0 (reqC Wire.zeroR (.slice none 0 0)) _ _ rfl rfl hb10 (by simp [zq, reqC]) (info_reqC _ _) (by simp [reqC, Value.oneCell']) ?_); intro w11 hb11 hk11 hs11; rw [put_whole (by rfl)] at hb11; have HB11 := Lib.hid hb11; have HK11 := Lib.hid (fresh_set (Keeps.refl _ w9) hk10 hk11); clear hb10 hk10 hb11 hk11))
          have HK511 := Lib.hid (((HK6.out.trans HK8.out (fun _ _ h => h)).trans HK9.out (fun _ _ h => h)).trans HK11.out (fun _ _ h => h))
          have HC11 := Lib.hid (HK511.out.cell cc0 (fun h => h))
          clear cc0
          refine Canon.region [11] [(⟨gd, 0, none⟩, .slice Ab d'.b.length cb)] [(15, 0)] (.seg [0, 1, 2, 3, 4, 5, 6, 7, 8, 9, 10, 12, 13, 14] (.hold [15, 16, 17] (.loud 11 (.seg [18, 19] .stop)))) (by kernel_rfl) (by kernel_rfl) (by repeat (first | (with_reducible exact Safe.body) | (with_reducible apply Safe.then) | (with_reducible apply Safe.inBlock) | (dsimp +zetaDelta only))) ?_
          simp only [Canon.pick, Canon.wpPlan, List.getElem?_toArray, List.getElem?_cons_zero, List.getElem?_cons_succ]
          have KE : Keeps (fun _ => False) w11 w11.drew := ((Keeps.refl _ w11).drew)
          have HK12 := Lib.hid (HK11.out.trans KE (fun _ _ h => h))
          have HK512 := Lib.hid (HK511.out.trans KE (fun _ _ h => h))
          have HB12 := Lib.hid (KE.heap HB11.out (fun h => h))
          have HC12 := Lib.hid (KE.cell HC11.out (fun h => h))
          clear HB11 HC11 KE HK11 HK511
          generalize w11.drew = w12 at *
          go_wp2_with (first
            | ((with_reducible refine at_ 93 rfl ?_); go_must (refine step_load rfl _ _ rfl w6.heap.size 0 (reqC Wire.zeroR (.slice none 0 0)) _ _ (0, 0) _ rfl (HK12.out.heap (HK9.out.heap HB8.out (fun h => h)) (fun h => h)) rfl Try.underlying26 rfl (info_reqC _ _) ?_))
            | ((with_reducible refine at_ 94 rfl ?_); go_must (refine step_load rfl _ _ rfl w9.heap.size 0 (reqC Wire.zeroR (.slice none 0 0)) _ _ (0, 0) _ rfl HB12.out rfl Try.underlying26 rfl (info_reqC _ _) ?_))
            | (go_at_call 15; refine Rets.use (same13_of Wire.zeroR zeroR_ok (.slice none 0 0) (.slice none 0 0) (by rfl) (by rfl) (Rd.nil w12 (fun _ => False)) (Rd.nil w12 (fun _ => False)) (by decide)) ?_; rintro _ w13 ⟨rfl, hk13⟩))
          have hcz13 := hk13.cell HC12.out (fun h => h)
          have HKz := Lib.hid (HK512.out.trans hk13 (fun _ _ h => h))
          have HBz := Lib.hid (HBd.out.kept HKz.out (fun _ h => h.elim))
          have HId := Lib.hid (HBz.out.idle)
          have HKy := Lib.hid (HK5.out.trans HKz.out (fun _ _ h => h.elim))
          refine ⟨fun p hp => by simp at hp; subst hp; exact hcz13, ?_⟩
          go_wp2_with (go_at_call 21; (refine Rets.use (idleW_is (b := false) (by obtain ⟨S, h⟩ := HId.out; exact ⟨S, _, h, HI0.out⟩)) ?_; rintro _ _ ⟨rfl, rfl⟩))
          refine ⟨fun p hp => by simp at hp; subst hp; exact hcz13, ?_⟩
          go_wp2
          refine ⟨by rfl, ⟨fun _ => rfl, trivial⟩, ?_⟩
          go_wp2
          go_roundw
          case rel => exact ⟨k + 1, n + 1, s', d', by omega, by go_num, Lib.hid (by omega), HBz, HKy⟩
          case measure => simp [intOf]; omega
      · obtain ⟨bt, ot, ct', e1, _, hbt, hcells⟩ := HTs.out.at (by intro e; have := congrArg List.length e; rw [List.length_map, List.length_nil] at this; exact hts (List.length_eq_zero_iff.1 this))
        cases e1
        have hpos : 0 < ts.length := List.length_pos_iff.2 hts
        obtain ⟨m, hm⟩ : ∃ m, k % ts.length = m := ⟨_, rfl⟩
        have hml : m < ts.length := by rw [← hm]; exact Nat.mod_lt _ hpos
        have hm2 : ((k : Int)) % (ts.length : Int) = (m : Int) := by rw [← hm]; exact (Int.natCast_emod _ _).symm
        have hm1 : ((k : Int)).tmod (ts.length : Int) = (m : Int) := by rw [Int.tmod_eq_emod_of_nonneg (by omega)]; exact hm2
        have hcm := HK5.out.cell (hcells m (.bool ts[m]) (by simp [hml])) (fun h => absurd hbt (Nat.not_lt.2 h))
        have hz : ¬ (ts.length : Int) = 0 := by omega
        have hz2 : ((ts.length : Int) == 0) = false := by rw [beq_eq_false_iff_ne]; omega
        have hgt : (0 : Int) < (ts.length : Int) := by omega
        have hix : (0 : Int) ≤ (m : Int) ∧ (m : Int) < (ts.length : Int) := by omega
        generalize ts[m] = tb at *
        clear hcells hm hts
        cases tb with
        | true =>
          have hxx := HRel.out.x
          have hdn := HRel.out.done
          have hXok := HRel.out.good
          cases hwh : s'.whole with
          | true =>
            rw [hwh] at hdn
            have hxy := hxx hwh
            have HXo := Lib.hid (show s'.x.Ok ∧ s'.x.body.length ≤ 1000000 from ⟨⟨hXok.xm, hXok.xt, hXok.xk, hXok.xb⟩, by have := hXok.bl; omega⟩)
            have HXe := Lib.hid hxy
            clear hxx hxy hXok
            go_wp2_with (first
              | (go_at_call 22; refine Rets.use (takeW_yes M1.out hwh) ?_; rintro v6 w6 ⟨vb6, hv6, hO6, hW6, hk6⟩; subst hv6; obtain ⟨A6, c6, rfl, _⟩ := hO6.slice; have HO6 := Lib.hid hO6; have HW6 := Lib.hid hW6; have HK6 := Lib.hid hk6; clear hO6 hW6 hk6)
              | ((with_reducible refine at_ 12 rfl ?_); go_must (refine step_alloc rfl _ rfl _ zq row_req rfl ?_); intro w7 hb7 hk7 hs7)
              | ((with_reducible refine at_store 26 (.tmp 12) (.tmp 82) rfl ?_); go_must (refine step_store rfl _ _ _ rfl w6.heap.size 0 (reqC s'.x (.slice A6 s'.x.body.length c6)) _ _ rfl rfl hb7 (by simp [zq, reqC]) (info_reqC _ _) (by simp [reqC, Value.oneCell']) ?_); intro w8 hb8 hk8 hs8; rw [put_whole (by rfl)] at hb8; have HB8 := Lib.hid hb8; have HK8 := Lib.hid (fresh_set (Keeps.refl _ w6) hk7 hk8); clear hb7 hk7 hb8 hk8)
              | (go_at_call 23; refine Rets.use (rtake_yes ((M2.out.kept HK6.out (fun k h h' => by have h2 : k = g := h'; subst h2; exact hgS h)).kept HK8.out (fun _ _ h => h)) hdn) ?_; rintro v9 w9 ⟨vb9, hv9, hO9, hD9, hk9⟩; subst hv9; obtain ⟨A9, c9, rfl, _⟩ := hO9.slice; have HO9 := Lib.hid hO9; have HD9 := Lib.hid hD9; have HK9 := Lib.hid hk9; clear hO9 hD9 hk9)
              | ((with_reducible refine at_ 14 rfl ?_); go_must (refine step_alloc rfl _ rfl _ zq row_req rfl ?_); intro w10 hb10 hk10 hs10)
              | ((with_reducible refine at_store 26 (.tmp 14) (.tmp 87) rfl ?_); go_must (refine step_store rfl _ _ _ rfl w9.heap.size 0 (reqC d'.x (.slice A9 d'.x.body.length c9)) _ _ rfl rfl hb10 (by simp [zq, reqC]) (info_reqC _ _) (by simp [reqC, Value.oneCell']) ?_); intro w11 hb11 hk11 hs11; rw [put_whole (by rfl)] at hb11; have HB11 := Lib.hid hb11; have HK11 := Lib.hid (fresh_set (Keeps.refl _ w9) hk10 hk11); clear hb10 hk10 hb11 hk11))
            obtain ⟨A0, cz, hcz, hlz⟩ := HD9.out.b_nil
            have HC11 := Lib.hid (HK11.out.cell hcz (fun h => h))
            clear hcz cc0
            refine Canon.region [11] [(⟨gd, 0, none⟩, .slice A0 0 cz)] [(15, 0)] (.seg [0, 1, 2, 3, 4, 5, 6, 7, 8, 9, 10, 12, 13, 14] (.hold [15, 16, 17] (.loud 11 (.seg [18, 19] .stop)))) (by kernel_rfl) (by kernel_rfl) (by repeat (first | (with_reducible exact Safe.body) | (with_reducible apply Safe.then) | (with_reducible apply Safe.inBlock) | (dsimp +zetaDelta only))) ?_
            simp only [Canon.pick, Canon.wpPlan, List.getElem?_toArray, List.getElem?_cons_zero, List.getElem?_cons_succ]
            have KE : Keeps (fun _ => False) w11 w11.drew := ((Keeps.refl _ w11).drew)
            have HK12 := Lib.hid (HK11.out.trans KE (fun _ _ h => h))
            have HB12 := Lib.hid (KE.heap HB11.out (fun h => h))
            have HC12 := Lib.hid (KE.cell HC11.out (fun h => h))
            clear HB11 HC11 KE HK11
            generalize w11.drew = w12 at *
            go_wp2_with (first
              | ((with_reducible refine at_ 93 rfl ?_); go_must (refine step_load rfl _ _ rfl w6.heap.size 0 (reqC s'.x (.slice A6 s'.x.body.length c6)) _ _ (0, 0) _ rfl (HK12.out.heap (HK9.out.heap HB8.out (fun h => by have h2 : w6.heap.size = gd := h; have := HK6.out.size; omega)) (fun h => h)) rfl Try.underlying26 rfl (info_reqC _ _) ?_))
              | ((with_reducible refine at_ 94 rfl ?_); go_must (refine step_load rfl _ _ rfl w9.heap.size 0 (reqC d'.x (.slice A9 d'.x.body.length c9)) _ _ (0, 0) _ rfl HB12.out rfl Try.underlying26 rfl (info_reqC _ _) ?_))
              | (go_at_call 15; refine Rets.use (same13_of s'.x HXo.out.1 (.slice A6 s'.x.body.length c6) (.slice A9 d'.x.body.length c9) (by rfl) (by rw [HXe.out]; rfl) ((((HO6.out.kept HK8.out (fun _ _ h => h)).kept HK9.out (fun k h h' => by have h2 : k = gd := h'; subst h2; exact hdS h.1)).kept HK12.out (fun _ _ h => h))).rd (by rw [HXe.out]; exact (HO9.out.kept HK12.out (fun _ _ h => h)).rd) HXo.out.2) ?_; rintro _ w13 ⟨rfl, hk13⟩))
            have hcz13 := hk13.cell HC12.out (fun h => h)
            have hsz : w5.heap.size ≤ w13.heap.size := Nat.le_trans HK6.out.size (Nat.le_trans HK8.out.size (Nat.le_trans HK9.out.size (Nat.le_trans HK12.out.size hk13.size)))
            have HWz := Lib.hid ((((HW6.out.kept HK8.out (fun _ _ h => h)).kept HK9.out (fun k h h' => hgne ((show k = g from h).symm.trans h'))).kept HK12.out (fun _ _ h => h)).kept hk13 (fun _ _ h => h))
            have HDz := Lib.hid (((HD9.out.kept HK12.out (fun _ _ h => h)).kept hk13 (fun _ _ h => h)))
            have HKz := Lib.hid ((((((HK5.out.trans HK6.out (fun q h h' => by have h2 : q = g := h'; omega)).trans HK8.out (fun _ _ h => h.elim)).trans HK9.out (fun q h h' => by have h2 : q = gd := h'; omega)).trans HK12.out (fun _ _ h => h.elim)).trans hk13 (fun _ _ h => h.elim)))
            refine ⟨fun p hp => by simp at hp; subst hp; exact hcz13, ?_⟩
            go_wp2_with (go_at_call 21; (refine Rets.use (idleW_is (b := true) ⟨_, _, HWz.out, rfl⟩) ?_; rintro _ _ ⟨rfl, rfl⟩))
            refine ⟨fun p hp => by simp at hp; subst hp; exact hcz13, ?_⟩
            go_wp2
            refine ⟨by rfl, ⟨fun _ => rfl, trivial⟩, ?_⟩
            go_wp2
            go_roundw
            case rel => exact ⟨k + 1, 0, Wire.new, _, by omega, by go_num, Lib.hid (Nat.zero_le _), Lib.hid ⟨HRel.out.take hwh, fun k => k = g, fun k => k = gd, HWz.out, HDz.out, fun k h h' => hgne ((show k = g from h).symm.trans h'), fun q h => by have h2 : q = g := h; subst h2; exact ⟨hgz.1, Nat.lt_of_lt_of_le hgz.2 hsz⟩, fun q h => by have h2 : q = gd := h; subst h2; exact ⟨hdz.1, Nat.lt_of_lt_of_le hdz.2 hsz⟩⟩, HKz⟩
            case measure => simp [intOf]; omega
          | false =>
            rw [hwh] at hdn
            clear hxx hXok
            go_wp2_with (first
              | (go_at_call 22; refine Rets.use (takeW_no M1.out hwh) ?_; rintro _ w6 ⟨rfl, hk6⟩; have HK6 := Lib.hid hk6; clear hk6)
              | ((with_reducible refine at_ 12 rfl ?_); go_must (refine step_alloc rfl _ rfl _ zq row_req rfl ?_); intro w7 hb7 hk7 hs7)
              | ((with_reducible refine at_store 26 (.tmp 12) (.tmp 82) rfl ?_); go_must (refine step_store rfl _ _ _ rfl w6.heap.size 0 (reqC Wire.zeroR (.slice none 0 0)) _ _ rfl rfl hb7 (by simp [zq, reqC]) (info_reqC _ _) (by simp [reqC, Value.oneCell']) ?_); intro w8 hb8 hk8 hs8; rw [put_whole (by rfl)] at hb8; have HB8 := Lib.hid hb8; have HK8 := Lib.hid (fresh_set (Keeps.refl _ w6) hk7 hk8); clear hb7 hk7 hb8 hk8)
              | (go_at_call 23; refine Rets.use (rtake_no ((M2.out.kept HK6.out (fun k h h' => h')).kept HK8.out (fun _ _ h => h)) hdn) ?_; rintro _ w9 ⟨rfl, hk9⟩; have HK9 := Lib.hid hk9; clear hk9)
              | ((with_reducible refine at_ 14 rfl ?_); go_must (refine step_alloc rfl _ rfl _ zq row_req rfl ?_); intro w10 hb10 hk10 hs10)
              | ((with_reducible refine at_store 26 (.tmp 14) (.tmp 87) rfl ?_); go_must (refine step_store rfl _ _ _ rfl w9.heap.size 0 (reqC Wire.zeroR (.slice none 0 0)) _ _ rfl rfl hb10 (by simp [zq, reqC]) (info_reqC _ _) (by simp [reqC, Value.oneCell']) ?_); intro w11 hb11 hk11 hs11; rw [put_whole (by rfl)] at hb11; have HB11 := Lib.hid hb11; have HK11 := Lib.hid (fresh_set (Keeps.refl _ w9) hk10 hk11); clear hb10 hk10 hb11 hk11))
            have HK511 := Lib.hid (((HK6.out.trans HK8.out (fun _ _ h => h)).trans HK9.out (fun _ _ h => h)).trans HK11.out (fun _ _ h => h))
            have HC11 := Lib.hid (HK511.out.cell cc0 (fun h => h))
            clear cc0
            refine Canon.region [11] [(⟨gd, 0, none⟩, .slice Ab d'.b.length cb)] [(15, 0)] (.seg [0, 1, 2, 3, 4, 5, 6, 7, 8, 9, 10, 12, 13, 14] (.hold [15, 16, 17] (.loud 11 (.seg [18, 19] .stop)))) (by kernel_rfl) (by kernel_rfl) (by repeat (first | (with_reducible exact Safe.body) | (with_reducible apply Safe.then) | (with_reducible apply Safe.inBlock) | (dsimp +zetaDelta only))) ?_
            simp only [Canon.pick, Canon.wpPlan, List.getElem?_toArray, List.getElem?_cons_zero, List.getElem?_cons_succ]
            have KE : Keeps (fun _ => False) w11 w11.drew := ((Keeps.refl _ w11).drew)
            have HK12 := Lib.hid (HK11.out.trans KE (fun _ _ h => h))
            have HK512 := Lib.hid (HK511.out.trans KE (fun _ _ h => h))
            have HB12 := Lib.hid (KE.heap HB11.out (fun h => h))
            have HC12 := Lib.hid (KE.cell HC11.out (fun h => h))
            clear HB11 HC11 KE HK11 HK511
            generalize w11.drew = w12 at *
            go_wp2_with (first
              | ((with_reducible refine at_ 93 rfl ?_); go_must (refine step_load rfl _ _ rfl w6.heap.size 0 (reqC Wire.zeroR (.slice none 0 0)) _ _ (0, 0) _ rfl (HK12.out.heap (HK9.out.heap HB8.out (fun h => h)) (fun h => h)) rfl Try.underlying26 rfl (info_reqC _ _) ?_))
              | ((with_reducible refine at_ 94 rfl ?_); go_must (refine step_load rfl _ _ rfl w9.heap.size 0 (reqC Wire.zeroR (.slice none 0 0)) _ _ (0, 0) _ rfl HB12.out rfl Try.underlying26 rfl (info_reqC _ _) ?_))
              | (go_at_call 15; refine Rets.use (same13_of Wire.zeroR zeroR_ok (.slice none 0 0) (.slice none 0 0) (by rfl) (by rfl) (Rd.nil w12 (fun _ => False)) (Rd.nil w12 (fun _ => False)) (by decide)) ?_; rintro _ w13 ⟨rfl, hk13⟩))
            have hcz13 := hk13.cell HC12.out (fun h => h)
            have HKz := Lib.hid (HK512.out.trans hk13 (fun _ _ h => h))
            have HBz := Lib.hid (HBd.out.kept HKz.out (fun _ h => h.elim))
            have HId := Lib.hid (HBz.out.idle)
            have HKy := Lib.hid (HK5.out.trans HKz.out (fun _ _ h => h.elim))
            refine ⟨fun p hp => by simp at hp; subst hp; exact hcz13, ?_⟩
            go_wp2_with (go_at_call 21; (refine Rets.use (idleW_is (b := false) (by obtain ⟨S, h⟩ := HId.out; exact ⟨S, _, h, HI0.out⟩)) ?_; rintro _ _ ⟨rfl, rfl⟩))
            refine ⟨fun p hp => by simp at hp; subst hp; exact hcz13, ?_⟩
            go_wp2
            refine ⟨by rfl, ⟨fun _ => rfl, trivial⟩, ?_⟩
            go_wp2
            go_roundw
            case rel => exact ⟨k + 1, n + 1, s', d', by omega, by go_num, Lib.hid (by omega), HBz, HKy⟩
            case measure => simp [intOf]; omega
        | false =>
          go_wp2
          go_roundw
          case rel => exact ⟨k + 1, n + 1, s', d', by omega, by go_num, Lib.hid (by omega), HBd, HK5⟩
          case measure => simp [intOf]; omega
    · obtain rfl : k = l.length := by omega
      go_wp2_with (go_at_call 17; refine Rets.use (lives13_c _) ?_; rintro v14 w14 ⟨rfl, hk14⟩)
      go_ret
      exact ⟨rfl, (HKr.out.trans hk14 (fun _ _ h => h.elim)).mono (fun k hk h => by omega)⟩
theorem steps_walk (W : World) (a0 : Option Addr) (n0 c0 : Nat) (x0 : (Kd.slice (.int .u8)).Dat) (H0 : Has W (.slice (.int .u8)) [.slice a0 n0 c0] x0) (a1 : Option Addr) (n1 c1 : Nat) (x1 : (Kd.slice .bool).Dat) (H1 : Has W (.slice .bool) [.slice a1 n1 c1] x1) :
    Calls Try.prog 5 #[.slice a0 n0 c0, .slice a1 n1 c1] W (Rets (Yes W)) :=
  steps_in W _ _ (byte_in H0) H0.bytes.1 _ _ H1.bools.1 H1.bools.2
end Go.Proofs.Ytibegbmehpggbaa

