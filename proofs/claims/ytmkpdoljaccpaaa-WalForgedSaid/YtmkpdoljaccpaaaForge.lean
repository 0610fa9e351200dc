/-
  WalForged: the walk.
-/
import Derived.Test.YtmkpdoljaccpaaaForgeM
namespace Go.Proofs.Ytmkpdoljaccpaaa
open Go.RowKit Go.Canon Go.Mem Go.Args
open Go.Disk (St)
set_option linter.unusedVariables false
set_option linter.unusedSimpArgs false
/-- One more text is wanted. -/
theorem Want.push {W w w7 w8 : World} {g : Nat} {lo : Option (Nat × LogS)} {s : St} {F F1 G R T : Nat → Prop} {vw v8 u : Value} {vs : List Value} {ts : List (List Int)} {t : List Int} (h : WF W w g lo s F1) (hO : OwnRow w R 38 1 vw ts.length vs) (hT : TextsRd w T vs ts) (hR1 : ∀ k, R k → F k) (hT1 : ∀ k, T k → F k) (hRT : ∀ k, R k → ¬ T k) (hF : ∀ k, F k → F1 k) (hG : ∀ k, G k → F1 k ∧ ¬ F k) (hu : Rd w G u t.length (Disk.bytes8 t))
    (hk7 : Keeps (fun _ => False) w w7) (hO8 : OwnRow w8 (fun k => R k ∨ w7.heap.size ≤ k) 38 1 v8 (ts.length + 1) (vs ++ [u])) (hk8 : Keeps (fun k => vw.ownBlock = some k) w7 w8) :
    WF W w8 g lo s (fun k => F1 k ∨ (w.heap.size ≤ k ∧ k < w8.heap.size)) ∧ Want w8 (fun k => F1 k ∨ (w.heap.size ≤ k ∧ k < w8.heap.size)) v8 (ts ++ [t]) := by
  have z7 := hk7.size
  have z8 := hk8.size
  have hF1 : ∀ k, F1 k → k < w.heap.size := fun k hk => by obtain ⟨_, P, Q, _, _, _, _, hF⟩ := h; exact (hF k hk).2.1
  have kR : Keeps (fun k => R k) w w8 := (hk7.mono (fun _ _ h => h.elim)).trans hk8 (fun k _ h => hO.2 k h)
  refine ⟨h.grow (kR.mono (fun k _ h => hF k (hR1 k h))) (fun k h' => ?_), fun k => R k ∨ (w7.heap.size ≤ k ∧ k < w8.heap.size), fun k => T k ∨ G k, vs ++ [u], ?_, ?_, ?_, ?_, ?_⟩
  · rcases h' with h' | h'
    · exact ⟨.inl h', by have := hF1 k h'; omega⟩
    · exact ⟨.inr h'.1, h'.2⟩
  · rw [List.length_append, List.length_singleton]
    exact hO8.mono (fun k hk h => by rcases h with h | h; exact .inl h; exact .inr ⟨h, hk⟩)
  · have hn : ∀ k, (T k ∨ G k) → ¬ R k := by
      rintro k (h | h) h'
      · exact hRT k h' h
      · exact (hG k h).2 (hR1 k h')
    exact ((hT.mono (T' := fun k => T k ∨ G k) (fun k h => .inl h)).kept kR hn).push ((hu.mono (ok' := fun k => T k ∨ G k) (fun k h => .inr h)).kept kR hn)
  · rintro k (h | h)
    · exact .inl (hF k (hR1 k h))
    · exact .inr ⟨by omega, h.2⟩
  · rintro k (h | h)
    · exact .inl (hF k (hT1 k h))
    · exact .inl (hG k h).1
  · rintro k (h | h) (h' | h')
    · exact hRT k h h'
    · exact (hG k h').2 (hR1 k h)
    · have := hF1 k (hF k (hT1 k h')); omega
    · have := hF1 k (hG k h').1; omega
theorem build_do10 (A : Option Addr) (n c : Nat) (w : World) : (Instr.build 72 #[(4, .slice A n c)]).run Try.prog w = .ok (.agg [Value.int .i64 0, .int .i64 0, .int .i64 0, .slice none 0 0, .slice A n c].toArray) w := by kernel_rfl
theorem size_alloc8 (w : World) (o : Obj) : (w.alloc o).heap.size = w.heap.size + 1 := by simp
/-- What the loop keeps, plainly. -/
structure Forging (m k : Nat) (s : St) (L : LogS) (ts : List (List Int)) : Prop where
  on : k < m → Alive s L ∧ s.armed = false ∧ L.texts = ts
  done : k = m → Forge s ts
  few : ts.length ≤ k
set_option maxHeartbeats 6400000 in
set_option maxRecDepth 100000 in
theorem walForged_in (W : World) (v : Value) (l : List Do10) (hD : Dos10 W v l) (seq : Int) (hseq : 0 ≤ seq ∧ seq < 18446744073709551616) (n : Int) (vK : Value) (keep : List Bool) (hK : Rd W (fun k => k < W.heap.size) vK keep.length (bools keep)) : Calls Try.prog 12 #[v, .int .u64 seq, .int .i64 n, vK] W (Rets (Yes W)) := by
  have HD := Lib.hid hD
  have HA0 := Lib.hid (show Alive (fresh 300) ⟨[], 0, false⟩ from ⟨(again_start 300 (by decide)).inv, rfl, rfl, fun t h => by cases h⟩)
  have HNew := Lib.hid (dNew_c 300 (by decide) (by decide) W)
  have HB := Lib.hid (flat_fresh 300)
  have HF0 := Lib.hid (show (fresh 300).opn.length ≤ 900000 by simp [fresh])
  have HOE := Lib.hid (openP_fresh 300)
  have HKk := Lib.hid hK
  obtain ⟨sq1, sq2⟩ := hseq
  have htm : seq.tmod 8 = seq % 8 := Int.tmod_eq_emod_of_nonneg sq1
  clear hD hK
  go_enter Try.func12, Try.ntmps12
  go_wp2_with (first
    | (go_at_call 35; go_loud (refine Rets.use (few10_c (HD.out.kept hW2.1)) ?_); rintro v3 w3 ⟨hk3, m0, A0, c0, ev, rfl, hm0, hm40⟩)
    | (go_at_call 34; go_loud (refine Rets.use (wf_open (F := fun _ => False) (lo := none) ⟨hk1, _, fun _ => False, hd1, fun x L e => (by cases e), fun k h => ⟨h.1, h.2, fun h => h⟩, fun _ h => h.elim, fun _ h => h.elim⟩ HF0.out HB.out HOE.out) ?_); rintro _ w2 ⟨x, rfl, hW2, _⟩)
    | (go_at_call 30; go_loud (refine Rets.use HNew.out ?_); rintro v1 w1 ⟨hk1, g, rfl, hd1⟩))
  have hl : Dos10 W (.slice A0 m0 c0) (l.take m0) := by have h := HD.out; rw [ev] at h; exact h.front m0 hm0
  have hml : (l.take m0).length = m0 := by rw [List.length_take]; omega
  obtain ⟨B, c, e3, hc1, hc2, _, hin⟩ := id hl
  obtain ⟨rfl, _, rfl⟩ := Value.slice.inj e3
  have HIn := Lib.hid hin
  have hcc : m0 ≤ c0 := by omega
  have hml2 := hml.symm
  generalize l.take m0 = m at *
  subst hml2
  have HW := Lib.hid (hW2.kept hk3)
  clear hl hin hW2 hk3 hd1 hk1 HNew HD HB HF0 HOE e3 hc1 hc2 hml ev hm0
  go_loopw [13, 14] (fun wv iv wr => ∃ (k : Nat) (s : St) (L : LogS) (ts : List (List Int)) (F : Nat → Prop), k ≤ m.length ∧ iv = .int .i64 k ∧ WF W wr g (some (x, L)) s F ∧ Want wr F wv ts ∧ Forging m.length k s L ts) (fun _ iv _ => m.length - (intOf iv).toNat)
  case atStart => exact ⟨0, _, _, [], _, Nat.zero_le _, rfl, HW.out, ⟨fun _ => False, fun _ => False, [], OwnRow.nil _ _ _ _, ⟨rfl, fun i l h => by simp at h⟩, fun _ h => h.elim, fun _ h => h.elim, fun _ h => h.elim⟩, ⟨fun _ => ⟨HA0.out, rfl, rfl⟩, fun _ => HA0.out.forge (.inl rfl), Nat.le_refl _⟩⟩
  case round =>
    obtain ⟨k, s, L, ts, F, hk, rfl, hW, hWa, hFo⟩ := hrel
    have HWr := Lib.hid hW
    have HFo := Lib.hid hFo
    obtain ⟨R, T, vs, hO, hT, hR1, hT1, hRT⟩ := hWa
    obtain ⟨Av, cv, rfl, _⟩ := hO.slice
    have HO := Lib.hid hO
    have HT := Lib.hid hT
    clear HW hW hO hT hFo
    by_cases hlt : k < m.length
    · obtain ⟨hAl, hAr, hTe⟩ := HFo.out.on hlt
      have HAl := Lib.hid hAl
      have HAr := Lib.hid hAr
      have HTe := Lib.hid hTe
      have hfew := HFo.out.few
      obtain ⟨b, o, e, hb, vB, vKd, c0', c1, c2, c3, c4, rB, _, hIB, rK, _, wN⟩ := HIn.out k _ (List.getElem?_eq_getElem hlt)
      cases e
      generalize m[k] = d at *
      have hK := HWr.out.1
      have HCC := Lib.hid (show ∀ w', Keeps (fun _ => False) wr w' → ∀ j u, [Value.int .i64 d.kind, .int .i64 d.n, .int .i64 d.long, vB, vKd][j]? = some u → w'.cell? ⟨b, o + k * 5 + j, none⟩ = some u by
        intro w' hk' j u hj
        have hk' := hK.trans hk' (fun _ _ h => h)
        match j, hj with
        | 0, hj => cases hj; exact hk'.cell c0' (fun h => h)
        | 1, hj => cases hj; exact hk'.cell c1 (fun h => h)
        | 2, hj => cases hj; exact hk'.cell c2 (fun h => h)
        | 3, hj => cases hj; exact hk'.cell c3 (fun h => h)
        | 4, hj => cases hj; exact hk'.cell c4 (fun h => h))
      have HTx := Lib.hid (fun w' (hk' : Keeps (fun _ => False) W w') => text_c (w := w') d vB vKd (rB.kept hk' (fun _ _ h => h)))
      have HCut := Lib.hid (cut_c (w := wr) vB d.b (rB.kept hK (fun _ _ h => h)) 40)
      have HTB := Lib.hid (textF_byte hIB)
      have HBB := Lib.hid (show IsB (d.b.take 40) from fun y hy => hIB y (List.mem_of_mem_take hy))
      have hbl : (d.b.take 40).length ≤ 40 := by rw [List.length_take]; omega
      have htl := textF_len d
      have c3 := hK.cell c3 (fun h => h)
      generalize textF d = tx at *
      generalize d.b.take 40 = bb at *
      obtain ⟨nz, hnz⟩ : ∃ nz : Nat, 64 * ((k : Int) % 3) + 48 = (nz : Int) := ⟨(64 * ((k : Int) % 3) + 48).toNat, by omega⟩
      have hnz2 : nz ≤ 400 := by omega
      clear c0' c1 c2 c4 rB rK hIB hK wN hAl hAr hTe
      by_cases hla : k + 1 = m.length
      · have hl1 : ((k : Int) == (m.length : Int) - 1) = true := by rw [beq_iff_eq]; omega
        go_wp2_with (first
          | (go_at_call 24; go_loud (refine Rets.use HCut.out ?_); rintro vC w3 ⟨hC, rfl⟩)
          | (go_at_call 45; go_loud (refine Rets.use (r8put_w _ (by omega) _ bb HBB.out hC (by omega)) ?_); rintro _ w4 ⟨u4, rfl, xi, li, bi, hOi, hki⟩)
          | ((with_reducible refine at_ 56 rfl ?_); go_must (refine step_make rfl _ _ _ rfl 5 _ 1 1 Try.underlying38 row_byte _ _ nz rfl rfl (by omega) (by simp only [maxLen]; omega) ?_); intro w5 hb5 hk5; rw [show madeCells (Value.int .u8 0).cells (nz * 1) = (Disk.bytes8 (List.replicate nz 0)).toArray from (by rw [Nat.mul_one, bytes8_zeros]; exact made_rep 1 nz (.int .u8 0) (by decide))] at hb5; have hO5 := own_blk (ok := fun k => wr.heap.size ≤ k) hb5 (by rw [Disk.bytes8_len, List.length_replicate]) (show 0 < nz by omega) (show nz ≤ maxLen by simp only [maxLen]; omega) hki.size)
          | ((with_reducible refine at_ 58 rfl ?_); go_must (refine step_append_rd (ok2 := fun k => wr.heap.size ≤ k) rfl _ _ _ rfl 5 _ 1 1 Try.underlying38 row_byte rfl (by decide) _ nz _ rfl hO5 _ (bb.length + 20) (Disk.bytes8 xi) rfl (hOi.rd.kept hk5 (fun _ _ h => h)) (by rw [Disk.bytes8_len, li, Nat.mul_one]) (Disk.bytes8_one _) (by simp only [maxLen]; omega) (by omega) ?_); intro v6 w6 hO6' hk6; (have K5 := hki.trans hk5 (fun _ _ h => h)); (have hO6 := row_app K5.size hO6'); have K6 : Keeps (fun _ => False) wr w6 := K5.trans hk6 (fun k hk h => by have := hO5.2 k h; omega); obtain ⟨A6, c6, rfl, _⟩ := hO6.slice)
          | ((with_reducible refine at_ 63 rfl ?_); go_must (refine step_load_cells rfl 72 _ rfl b (o + k * 5) [.int .i64 d.kind, .int .i64 d.n, .int .i64 d.long, vB, vKd] _ rfl (HCC.out _ K6) Try.underlying72 rfl info_do10 ?_))
          | (go_at_call 38; go_loud (refine Rets.use (HTx.out _ (HWr.out.1.trans K6 (fun _ _ h => h))) ?_); rintro v7 w7 ⟨hO7, hk7⟩)
          | ((with_reducible refine at_ 65 rfl ?_); go_must (refine step_append_rd (ok2 := fun k => w6.heap.size ≤ k) rfl _ _ _ rfl 5 _ 1 1 Try.underlying38 row_byte rfl (by decide) _ (nz + (bb.length + 20)) _ rfl (hO6.kept hk7 (fun _ _ h => h)) _ tx.length (Disk.bytes8 tx) rfl hO7.rd (by rw [Disk.bytes8_len, Nat.mul_one]) (Disk.bytes8_one _) (by simp only [maxLen]; omega) (by omega) ?_); intro v8 w8 hO8' hk8; (have K7 := K6.trans hk7 (fun _ _ h => h)); (have hO8 := row_app K7.size hO8'); have K8 : Keeps (fun _ => False) wr w8 := K7.trans hk8 (fun k hk h => by have := hO6.2 k h; omega)))
        obtain ⟨t, ht⟩ : ∃ t, t = List.replicate nz 0 ++ xi ++ tx := ⟨_, rfl⟩
        have htl2 : t.length = nz + (bb.length + 20) + tx.length := by rw [ht, List.length_append, List.length_append, List.length_replicate, li]
        have HTb := Lib.hid (show IsB t by
          rw [ht]
          refine app_byte (app_byte (fun y hy => ?_) bi) HTB.out
          rw [List.eq_of_mem_replicate hy]; decide)
        rw [← htl2, ← ht] at hO8
        have HR8 := Lib.hid hO8.rd.lt
        have hsv := Rd.one hO8.rd
        have HW1 := Lib.hid (HWr.out.grow (F' := fun j => F j ∨ (wr.heap.size ≤ j ∧ j < w8.heap.size)) (K8.mono (fun _ _ h => h.elim)) (fun j h => by
          have z8 := K8.size
          rcases h with h | h
          · exact ⟨.inl h, by obtain ⟨_, P, Q, _, _, _, _, hF⟩ := HWr.out; have := (hF j h).2.1; omega⟩
          · exact ⟨.inr h.1, h.2⟩))
        have HG := Lib.hid (show ∀ j, (wr.heap.size ≤ j ∧ j < w8.heap.size) → (F j ∨ (wr.heap.size ≤ j ∧ j < w8.heap.size)) ∧ ¬ F j from fun j h => ⟨.inr h, fun h' => by obtain ⟨_, P, Q, _, _, _, _, hF⟩ := HWr.out; have := (hF j h').2.1; omega⟩)
        have HO8 := Lib.hid (HO.out.kept K8 (fun _ _ h => h))
        have HT8 := Lib.hid (HT.out.kept K8 (fun _ _ h => h))
        have htb : t.length ≤ 1000000 := by omega
        clear ht htl2 hO8 hO8' hO7 hO6 hO6' hO5 hOi hb5 hC K5 K6 K7 K8 hki hk5 hk6 hk7 hk8 HO HT HCC HTx HCut bi li HTB HBB
        obtain ⟨nn, hnn⟩ : ∃ nn : Int, least n 0 60 = nn := ⟨_, rfl⟩
        have hn1 : 0 ≤ nn ∧ nn ≤ 60 := by unfold least at hnn; split at hnn <;> (try split at hnn) <;> omega
        have HLn := Lib.hid (fun w' => (show Calls Try.prog 22 #[.int .i64 n, .int .i64 0, .int .i64 60] w' (Rets (Only (.int .i64 nn) w')) by rw [← hnn]; exact least_c n 0 60 w'))
        have HAl2 := Lib.hid (HAl.out.arm hn1.1)
        have HQ := Lib.hid (HAl.out.last HTb.out nn hn1.1)
        have HArm := Lib.hid (wf_arm HW1.out nn (by omega))
        clear hnn
        generalize (s.arm nn).2 = s2 at *
        generalize (s.arm nn).1 = e2 at *
        have HAp := Lib.hid (fun w' (hW : WF W w' g (some (x, L)) s2 (fun j => F j ∨ (wr.heap.size ≤ j ∧ j < w8.heap.size))) (hr : Rd w' (fun k => wr.heap.size ≤ k ∧ k < w8.heap.size) v8 t.length (Disk.bytes8 t)) => wf_append hW HAl2.out v8 t hr (fun j h => .inr h) htb)
        generalize appendP s2 L t = q at *
        rcases HQ.out with ⟨q1, q2⟩ | ⟨q1 | q1 | q1, q2⟩
        · have HQ1 := Lib.hid q1
          have HQ2 := Lib.hid q2
          clear HQ q1 q2
          go_wp2_with (first
            | ((with_reducible refine at_ 81 rfl ?_); go_must (refine step_lit rfl 29 _ 1 rfl [v8] rfl rfl (by decide) 38 _ 1 Try.underlying29 row2_bytes (by decide) (by decide) (by intro v hv; rw [List.mem_singleton] at hv; subst hv; exact one_size hsv) ?_); intro wa hba hka hsa)
            | ((with_reducible refine at_ 82 rfl ?_); go_must (refine step_append_rd (ok2 := fun j => wq.heap.size ≤ j) rfl _ _ _ rfl 38 _ 1 24 Try.underlying29 row_bytes rfl (by decide) (.slice Av ts.length cv) ts.length vs rfl (HOq.out.kept hka (fun _ _ h => h)) _ 1 [v8] rfl (lit_rd hsv hba (Nat.le_refl _)) rfl (by intro y hy; rw [List.mem_singleton] at hy; subst hy; exact hsv) (by simp only [maxLen]; omega) (by omega) ?_); intro vb wb hOb hkb)
            | (go_at_call 37; go_loud (refine Rets.use (HAp.out _ hW9 (HR8.out.kept hk9 (fun j h h' => h' (.inr h)))) ?_); rintro _ wq ⟨rfl, hWq, hkq⟩; rw [HQ1.out]; (have hkk := hk9.trans hkq (fun _ _ h => h)); have HOq := Lib.hid (HO8.out.kept hkk (fun j h h' => h' (.inl (hR1 j h)))))
            | (go_at_call 27; go_loud (refine Rets.use HArm.out ?_); rintro _ w9 ⟨rfl, hW9, hk9⟩)
            | (go_at_call 22; go_loud (refine Rets.use (HLn.out _) ?_); rintro _ _ ⟨rfl, rfl⟩))
          go_roundw
          case rel =>
            obtain ⟨a, b⟩ := Want.push hWq HOq.out (HT8.out.kept hkk (fun j h h' => h' (.inl (hT1 j h)))) hR1 hT1 hRT (fun j h => .inl h) HG.out (HR8.out.kept hkk (fun j h h' => h' (.inr h))) hka hOb hkb
            exact ⟨k + 1, _, _, ts ++ [t], _, hlt, by go_num, a, b, ⟨fun h => by omega, fun _ => by rw [← HTe.out]; exact HQ2.out, by simp; omega⟩⟩
          case measure => simp [intOf]; omega
        · have HQ1 := Lib.hid q1
          have HQ2 := Lib.hid q2
          clear HQ q1 q2
          go_wp2_with (first
            | ((with_reducible refine at_ 90 rfl ?_); go_must (refine step_lit rfl 29 _ 1 rfl [v8] rfl rfl (by decide) 38 _ 1 Try.underlying29 row2_bytes (by decide) (by decide) (by intro v hv; rw [List.mem_singleton] at hv; subst hv; exact one_size hsv) ?_); intro wa hba hka hsa)
            | ((with_reducible refine at_ 91 rfl ?_); go_must (refine step_append_rd (ok2 := fun j => wq.heap.size ≤ j) rfl _ _ _ rfl 38 _ 1 24 Try.underlying29 row_bytes rfl (by decide) (.slice Av ts.length cv) ts.length vs rfl (HOq.out.kept hka (fun _ _ h => h)) _ 1 [v8] rfl (lit_rd hsv hba (Nat.le_refl _)) rfl (by intro y hy; rw [List.mem_singleton] at hy; subst hy; exact hsv) (by simp only [maxLen]; omega) (by omega) ?_); intro vb wb hOb hkb)
            | (go_at_call 37; go_loud (refine Rets.use (HAp.out _ hW9 (HR8.out.kept hk9 (fun j h h' => h' (.inr h)))) ?_); rintro _ wq ⟨rfl, hWq, hkq⟩; rw [HQ1.out]; (have hkk := hk9.trans hkq (fun _ _ h => h)); have HOq := Lib.hid (HO8.out.kept hkk (fun j h h' => h' (.inl (hR1 j h)))))
            | (go_at_call 27; go_loud (refine Rets.use HArm.out ?_); rintro _ w9 ⟨rfl, hW9, hk9⟩)
            | (go_at_call 22; go_loud (refine Rets.use (HLn.out _) ?_); rintro _ _ ⟨rfl, rfl⟩))
          go_roundw
          case rel =>
            obtain ⟨a, b⟩ := Want.push hWq HOq.out (HT8.out.kept hkk (fun j h h' => h' (.inl (hT1 j h)))) hR1 hT1 hRT (fun j h => .inl h) HG.out (HR8.out.kept hkk (fun j h h' => h' (.inr h))) hka hOb hkb
            exact ⟨k + 1, _, _, ts ++ [t], _, hlt, by go_num, a, b, ⟨fun h => by omega, fun _ => by rw [← HTe.out]; exact HQ2.out, by simp; omega⟩⟩
          case measure => simp [intOf]; omega
        · have HQ1 := Lib.hid q1
          have HQ2 := Lib.hid q2
          clear HQ q1 q2
          go_wp2_with (first
            | ((with_reducible refine at_ 90 rfl ?_); go_must (refine step_lit rfl 29 _ 1 rfl [v8] rfl rfl (by decide) 38 _ 1 Try.underlying29 row2_bytes (by decide) (by decide) (by intro v hv; rw [List.mem_singleton] at hv; subst hv; exact one_size hsv) ?_); intro wa hba hka hsa)
            | ((with_reducible refine at_ 91 rfl ?_); go_must (refine step_append_rd (ok2 := fun j => wq.heap.size ≤ j) rfl _ _ _ rfl 38 _ 1 24 Try.underlying29 row_bytes rfl (by decide) (.slice Av ts.length cv) ts.length vs rfl (HOq.out.kept hka (fun _ _ h => h)) _ 1 [v8] rfl (lit_rd hsv hba (Nat.le_refl _)) rfl (by intro y hy; rw [List.mem_singleton] at hy; subst hy; exact hsv) (by simp only [maxLen]; omega) (by omega) ?_); intro vb wb hOb hkb)
            | (go_at_call 37; go_loud (refine Rets.use (HAp.out _ hW9 (HR8.out.kept hk9 (fun j h h' => h' (.inr h)))) ?_); rintro _ wq ⟨rfl, hWq, hkq⟩; rw [HQ1.out]; (have hkk := hk9.trans hkq (fun _ _ h => h)); have HOq := Lib.hid (HO8.out.kept hkk (fun j h h' => h' (.inl (hR1 j h)))))
            | (go_at_call 27; go_loud (refine Rets.use HArm.out ?_); rintro _ w9 ⟨rfl, hW9, hk9⟩)
            | (go_at_call 22; go_loud (refine Rets.use (HLn.out _) ?_); rintro _ _ ⟨rfl, rfl⟩))
          go_roundw
          case rel =>
            obtain ⟨a, b⟩ := Want.push hWq HOq.out (HT8.out.kept hkk (fun j h h' => h' (.inl (hT1 j h)))) hR1 hT1 hRT (fun j h => .inl h) HG.out (HR8.out.kept hkk (fun j h h' => h' (.inr h))) hka hOb hkb
            exact ⟨k + 1, _, _, ts ++ [t], _, hlt, by go_num, a, b, ⟨fun h => by omega, fun _ => by rw [← HTe.out]; exact HQ2.out, by simp; omega⟩⟩
          case measure => simp [intOf]; omega
        · have HQ1 := Lib.hid q1
          have HQ2 := Lib.hid q2
          clear HQ q1 q2
          go_wp2_with (first
            | ((with_reducible refine at_ 90 rfl ?_); go_must (refine step_lit rfl 29 _ 1 rfl [v8] rfl rfl (by decide) 38 _ 1 Try.underlying29 row2_bytes (by decide) (by decide) (by intro v hv; rw [List.mem_singleton] at hv; subst hv; exact one_size hsv) ?_); intro wa hba hka hsa)
            | ((with_reducible refine at_ 91 rfl ?_); go_must (refine step_append_rd (ok2 := fun j => wq.heap.size ≤ j) rfl _ _ _ rfl 38 _ 1 24 Try.underlying29 row_bytes rfl (by decide) (.slice Av ts.length cv) ts.length vs rfl (HOq.out.kept hka (fun _ _ h => h)) _ 1 [v8] rfl (lit_rd hsv hba (Nat.le_refl _)) rfl (by intro y hy; rw [List.mem_singleton] at hy; subst hy; exact hsv) (by simp only [maxLen]; omega) (by omega) ?_); intro vb wb hOb hkb)
            | (go_at_call 37; go_loud (refine Rets.use (HAp.out _ hW9 (HR8.out.kept hk9 (fun j h h' => h' (.inr h)))) ?_); rintro _ wq ⟨rfl, hWq, hkq⟩; rw [HQ1.out]; (have hkk := hk9.trans hkq (fun _ _ h => h)); have HOq := Lib.hid (HO8.out.kept hkk (fun j h h' => h' (.inl (hR1 j h)))))
            | (go_at_call 27; go_loud (refine Rets.use HArm.out ?_); rintro _ w9 ⟨rfl, hW9, hk9⟩)
            | (go_at_call 22; go_loud (refine Rets.use (HLn.out _) ?_); rintro _ _ ⟨rfl, rfl⟩))
          go_roundw
          case rel =>
            obtain ⟨a, b⟩ := Want.push hWq HOq.out (HT8.out.kept hkk (fun j h h' => h' (.inl (hT1 j h)))) hR1 hT1 hRT (fun j h => .inl h) HG.out (HR8.out.kept hkk (fun j h h' => h' (.inr h))) hka hOb hkb
            exact ⟨k + 1, _, _, ts ++ [t], _, hlt, by go_num, a, b, ⟨fun h => by omega, fun _ => by rw [← HTe.out]; exact HQ2.out, by simp; omega⟩⟩
          case measure => simp [intOf]; omega
      · have hl1 : ((k : Int) == (m.length : Int) - 1) = false := beq_eq_false_iff_ne.2 (by omega)
        go_wp2_with (first
          | (go_at_call 24; go_loud (refine Rets.use HCut.out ?_); rintro vC w3 ⟨hC, rfl⟩)
          | (go_at_call 45; go_loud (refine Rets.use (r8put_w _ (by omega) _ bb HBB.out hC (by omega)) ?_); rintro _ w4 ⟨u4, rfl, xi, li, bi, hOi, hki⟩)
          | ((with_reducible refine at_ 56 rfl ?_); go_must (refine step_make rfl _ _ _ rfl 5 _ 1 1 Try.underlying38 row_byte _ _ nz rfl rfl (by omega) (by simp only [maxLen]; omega) ?_); intro w5 hb5 hk5; rw [show madeCells (Value.int .u8 0).cells (nz * 1) = (Disk.bytes8 (List.replicate nz 0)).toArray from (by rw [Nat.mul_one, bytes8_zeros]; exact made_rep 1 nz (.int .u8 0) (by decide))] at hb5; have hO5 := own_blk (ok := fun k => wr.heap.size ≤ k) hb5 (by rw [Disk.bytes8_len, List.length_replicate]) (show 0 < nz by omega) (show nz ≤ maxLen by simp only [maxLen]; omega) hki.size)
          | ((with_reducible refine at_ 58 rfl ?_); go_must (refine step_append_rd (ok2 := fun k => wr.heap.size ≤ k) rfl _ _ _ rfl 5 _ 1 1 Try.underlying38 row_byte rfl (by decide) _ nz _ rfl hO5 _ (bb.length + 20) (Disk.bytes8 xi) rfl (hOi.rd.kept hk5 (fun _ _ h => h)) (by rw [Disk.bytes8_len, li, Nat.mul_one]) (Disk.bytes8_one _) (by simp only [maxLen]; omega) (by omega) ?_); intro v6 w6 hO6' hk6; (have K5 := hki.trans hk5 (fun _ _ h => h)); (have hO6 := row_app K5.size hO6'); have K6 : Keeps (fun _ => False) wr w6 := K5.trans hk6 (fun k hk h => by have := hO5.2 k h; omega); obtain ⟨A6, c6, rfl, _⟩ := hO6.slice)
          | ((with_reducible refine at_ 63 rfl ?_); go_must (refine step_load_cells rfl 72 _ rfl b (o + k * 5) [.int .i64 d.kind, .int .i64 d.n, .int .i64 d.long, vB, vKd] _ rfl (HCC.out _ K6) Try.underlying72 rfl info_do10 ?_))
          | (go_at_call 38; go_loud (refine Rets.use (HTx.out _ (HWr.out.1.trans K6 (fun _ _ h => h))) ?_); rintro v7 w7 ⟨hO7, hk7⟩)
          | ((with_reducible refine at_ 65 rfl ?_); go_must (refine step_append_rd (ok2 := fun k => w6.heap.size ≤ k) rfl _ _ _ rfl 5 _ 1 1 Try.underlying38 row_byte rfl (by decide) _ (nz + (bb.length + 20)) _ rfl (hO6.kept hk7 (fun _ _ h => h)) _ tx.length (Disk.bytes8 tx) rfl hO7.rd (by rw [Disk.bytes8_len, Nat.mul_one]) (Disk.bytes8_one _) (by simp only [maxLen]; omega) (by omega) ?_); intro v8 w8 hO8' hk8; (have K7 := K6.trans hk7 (fun _ _ h => h)); (have hO8 := row_app K7.size hO8'); have K8 : Keeps (fun _ => False) wr w8 := K7.trans hk8 (fun k hk h => by have := hO6.2 k h; omega)))
        obtain ⟨t, ht⟩ : ∃ t, t = List.replicate nz 0 ++ xi ++ tx := ⟨_, rfl⟩
        have htl2 : t.length = nz + (bb.length + 20) + tx.length := by rw [ht, List.length_append, List.length_append, List.length_replicate, li]
        have HTb := Lib.hid (show IsB t by
          rw [ht]
          refine app_byte (app_byte (fun y hy => ?_) bi) HTB.out
          rw [List.eq_of_mem_replicate hy]; decide)
        rw [← htl2, ← ht] at hO8
        have HR8 := Lib.hid hO8.rd.lt
        have hsv := Rd.one hO8.rd
        have HW1 := Lib.hid (HWr.out.grow (F' := fun j => F j ∨ (wr.heap.size ≤ j ∧ j < w8.heap.size)) (K8.mono (fun _ _ h => h.elim)) (fun j h => by
          have z8 := K8.size
          rcases h with h | h
          · exact ⟨.inl h, by obtain ⟨_, P, Q, _, _, _, _, hF⟩ := HWr.out; have := (hF j h).2.1; omega⟩
          · exact ⟨.inr h.1, h.2⟩))
        have HG := Lib.hid (show ∀ j, (wr.heap.size ≤ j ∧ j < w8.heap.size) → (F j ∨ (wr.heap.size ≤ j ∧ j < w8.heap.size)) ∧ ¬ F j from fun j h => ⟨.inr h, fun h' => by obtain ⟨_, P, Q, _, _, _, _, hF⟩ := HWr.out; have := (hF j h').2.1; omega⟩)
        have HO8 := Lib.hid (HO.out.kept K8 (fun _ _ h => h))
        have HT8 := Lib.hid (HT.out.kept K8 (fun _ _ h => h))
        have htb : t.length ≤ 1000000 := by omega
        clear ht htl2 hO8 hO8' hO7 hO6 hO6' hO5 hOi hb5 hC K5 K6 K7 K8 hki hk5 hk6 hk7 hk8 HO HT HCC HTx HCut bi li HTB HBB
        have HAp := Lib.hid (wf_append HW1.out HAl.out v8 t HR8.out (fun j h => .inr ⟨h.1, h.2⟩) htb)
        have HQ := Lib.hid (HAl.out.quiet HAr.out HTb.out)
        generalize appendP s L t = q at *
        rcases HQ.out with ⟨q1, q2, q3, q4⟩ | ⟨q1, q2⟩
        · have HQ1 := Lib.hid q1
          have HQ2 := Lib.hid q2
          have HQ3 := Lib.hid q3
          have HQ4 := Lib.hid q4
          clear HQ q1 q2 q3 q4
          go_wp2_with (first
            | ((with_reducible refine at_ 81 rfl ?_); go_must (refine step_lit rfl 29 _ 1 rfl [v8] rfl rfl (by decide) 38 _ 1 Try.underlying29 row2_bytes (by decide) (by decide) (by intro v hv; rw [List.mem_singleton] at hv; subst hv; exact one_size hsv) ?_); intro wa hba hka hsa)
            | ((with_reducible refine at_ 82 rfl ?_); go_must (refine step_append_rd (ok2 := fun j => wq.heap.size ≤ j) rfl _ _ _ rfl 38 _ 1 24 Try.underlying29 row_bytes rfl (by decide) (.slice Av ts.length cv) ts.length vs rfl (HOq.out.kept hka (fun _ _ h => h)) _ 1 [v8] rfl (lit_rd hsv hba (Nat.le_refl _)) rfl (by intro y hy; rw [List.mem_singleton] at hy; subst hy; exact hsv) (by simp only [maxLen]; omega) (by omega) ?_); intro vb wb hOb hkb)
            | (go_at_call 37; go_loud (refine Rets.use HAp.out ?_); rintro _ wq ⟨rfl, hWq, hkq⟩; rw [HQ1.out]; have HOq := Lib.hid (HO8.out.kept hkq (fun j h h' => h' (.inl (hR1 j h))))))
          go_roundw
          case rel =>
            obtain ⟨a, b⟩ := Want.push hWq HOq.out (HT8.out.kept hkq (fun j h h' => h' (.inl (hT1 j h)))) hR1 hT1 hRT (fun j h => .inl h) HG.out (HR8.out.kept hkq (fun j h h' => h' (.inr h))) hka hOb hkb
            exact ⟨k + 1, _, _, ts ++ [t], _, hlt, by go_num, a, b, ⟨fun _ => ⟨HQ2.out, HQ3.out, by rw [HQ4.out, HTe.out]⟩, fun h => (hla h).elim, by simp; omega⟩⟩
          case measure => simp [intOf]; omega
        · obtain ⟨e, q5⟩ := q
          simp only at q1 q2 HAp
          subst q2
          clear HQ
          rcases q1 with rfl | rfl
          · go_wp2_with (go_at_call 37; go_loud (refine Rets.use HAp.out ?_); rintro _ wq ⟨rfl, hWq, hkq⟩)
            go_roundw
            case rel =>
              exact ⟨k + 1, _, _, ts, _, hlt, by go_num, hWq, ⟨R, T, vs, HO8.out.kept hkq (fun j h h' => h' (.inl (hR1 j h))), HT8.out.kept hkq (fun j h h' => h' (.inl (hT1 j h))), fun j h => .inl (hR1 j h), fun j h => .inl (hT1 j h), hRT⟩, ⟨fun _ => ⟨HAl.out, HAr.out, HTe.out⟩, fun h => (hla h).elim, by omega⟩⟩
            case measure => simp [intOf]; omega
          · go_wp2_with (go_at_call 37; go_loud (refine Rets.use HAp.out ?_); rintro _ wq ⟨rfl, hWq, hkq⟩)
            go_roundw
            case rel =>
              exact ⟨k + 1, _, _, ts, _, hlt, by go_num, hWq, ⟨R, T, vs, HO8.out.kept hkq (fun j h h' => h' (.inl (hR1 j h))), HT8.out.kept hkq (fun j h h' => h' (.inl (hT1 j h))), fun j h => .inl (hR1 j h), fun j h => .inl (hT1 j h), hRT⟩, ⟨fun _ => ⟨HAl.out, HAr.out, HTe.out⟩, fun h => (hla h).elim, by omega⟩⟩
            case measure => simp [intOf]; omega
    · obtain rfl : k = m.length := by omega
      obtain ⟨us, hRd, hub, hut, hul, hul2⟩ := (HFo.out.done rfl).crash (keep.take 400)
      have HRd := Lib.hid hRd
      have hfew := (HFo.out.done rfl).few
      obtain ⟨L2, s2, hop, hLt, hA2, hx⟩ := hRd.forged hub (t := [120]) (fun y hy => by rw [List.mem_singleton] at hy; subst hy; decide)
      have HOp := Lib.hid hop
      have HLt := Lib.hid hLt
      have HA2 := Lib.hid hA2
      have HFl := Lib.hid hRd.flat
      have HOpn := Lib.hid (show (s.crash (keep.take 400)).opn.length ≤ 900000 by rw [hRd.opn]; decide)
      have hWa : Want wr F (.slice Av ts.length cv) ts := ⟨R, T, vs, HO.out, HT.out, hR1, hT1, hRT⟩
      have HFr := Lib.hid (hWa.front hut hul)
      have HL4 := Lib.hid (show L2.texts.length ≤ 4096 by have := hA2.inv.nexts; have := hA2.inv.most; omega)
      have HS4 := Lib.hid (show ∀ t ∈ L2.texts, t.length ≤ 1000000 from fun t ht => by have := hA2.inv.small t ht; omega)
      have HS5 := Lib.hid (show ∀ t ∈ us, t.length ≤ 1000000 from fun t ht => by have := HS4.out t (by rw [hLt]; exact ht); exact this)
      have hu4 : us.length ≤ 4096 := by rw [← hLt]; exact HL4.out
      obtain ⟨AK, cK, rfl, _⟩ := HKk.out.slice
      have HKp := Lib.hid (fun w' (hk' : Keeps (fun _ => False) W w') => keep10_c (w := w') ⟨0, 0, 0, [], keep⟩ (.slice none 0 0) (.slice AK keep.length cK) (HKk.out.kept hk' (fun _ _ h => h)))
      have hkl : (keep.take 400).length ≤ 400 := by rw [List.length_take]; omega
      simp only at HKp
      generalize keep.take 400 = kp at *
      generalize hs1 : s.crash kp = s1 at *
      have HS1 := Lib.hid hs1
      have hcv : ts.length ≤ cv := by obtain ⟨_, _, e, h, _⟩ := HO.out.slice; cases e; exact h
      have hul1 : (us.length : Int) ≤ ts.length := by omega
      have hul3 : (ts.length : Int) ≤ (us.length : Int) + 1 := by omega
      have kc := fun (w : World) (C : Array Value) (n c : Nat) => Lib.run_convert_bytes_const (P := Try.prog) w 38 5 C n c Try.underlying38 Try.underlying5
      obtain ⟨q, hq⟩ : ∃ q, q = appendP s2 L2 [120] := ⟨_, rfl⟩
      have HQe := Lib.hid hq
      rw [← hq] at hx
      clear hRd hop hLt hA2 hub hs1 hWa hut hul hul2 hq HKk
      go_wp2_with (first
        | (go_at_call 39; go_loud (refine Rets.use (lives10_c _) ?_); rintro v12 w12 ⟨rfl, hk12⟩)
        | (go_at_call 37; (have hz := hk8); clear hz; (have hka : Keeps (fun _ => False) w8 (w8.alloc (.cells #[.int .u8 120] 5 (1, 2))) := (Keeps.refl _ w8).alloc _); (have hbr : Rd (w8.alloc (.cells #[.int .u8 120] 5 (1, 2))) (· = w8.heap.size) (.slice (some ⟨w8.heap.size, 0, none⟩) 1 1) 1 (Disk.bytes8 [120]) := ⟨_, _, rfl, by decide, fun h => (by cases h), .inr ⟨_, _, rfl, rfl, fun j u hu => by rw [cell_of_row _ _ _ _ _ _ (heap_alloc_new w8 _), Nat.zero_add]; simpa [Disk.bytes8] using hu⟩⟩); go_loud (refine Rets.use (wf_append (F := fun k => k = w8.heap.size) (ok := (· = w8.heap.size)) (((hW6.kept hk7).kept hk8).grow (hka.mono (fun _ _ h => h.elim)) (fun k h => ⟨.inr (by omega), by rw [h, size_alloc8]; omega⟩)) HA2.out _ [120] hbr (fun _ h => h) (by decide)) ?_); rintro _ w9 ⟨rfl, hW9, _⟩; rw [← HQe.out])
        | (go_at_call 40; (have hz := hk7); clear hz; go_loud (refine Rets.use (same07_self (ok := fun k => w6.heap.size ≤ k ∧ k < w7.heap.size) hr7.rd ((((HFr.out.kept hk4 (fun _ _ h => h)).kept hk5 (fun k h h' => h' h)).kept hk6 (fun k h h' => h' h)).kept hk7 (fun _ _ h => h)) (by omega) HS5.out) ?_); rintro _ w8 ⟨rfl, hk8⟩)
        | (go_at_call 41; go_loud (refine Rets.use (texts_c hM6 HL4.out HS4.out) ?_); rintro v7 w7 ⟨hk7, hr7⟩; rw [HLt.out] at hr7; obtain ⟨vs7, ho7, _⟩ := id hr7; obtain ⟨A7, c7, rfl, _⟩ := ho7.slice)
        | (go_at_call 34; go_loud (refine Rets.use (wf_open hW5 HOpn.out HFl.out HOp.out) ?_); rintro _ w6 ⟨x6, rfl, hW6, hk6⟩; obtain ⟨_, P6, Q6, _, hm6, _⟩ := id hW6; have hM6 := hm6 x6 L2 rfl)
        | (go_at_call 17; go_loud (refine Rets.use (wf_crash (HWr.out.kept hk4) (by omega) v4 kp hr4 (fun _ h => h) (by omega)) ?_); rintro _ w5 ⟨rfl, hW5, hk5⟩; rw [HS1.out] at hW5)
        | (go_at_call 44; go_loud (refine Rets.use (HKp.out _ HWr.out.1) ?_); rintro v4 w4 ⟨hk4, hr4⟩)
        | ((with_reducible refine at_ 94 rfl ?_); go_must (refine step_build rfl 72 _ rfl [(4, .slice AK keep.length cK)] rfl _ (build_do10 AK keep.length cK) ?_)))
      go_ret
      exact ⟨rfl, hW9.1.trans hk12 (fun _ _ h => h)⟩
theorem u64_le {n : Int} (h : (Lit.int .u64 n).wf = true) : 0 ≤ n ∧ n < 18446744073709551616 := by
  simp [Lit.wf, IntKind.min, IntKind.max, IntKind.signed, IntKind.bits] at h
  omega
theorem walForged_walk (W : World) (a0 : Option Addr) (n0 c0 : Nat) (x0 : (Kd.slice KDo10).Dat) (H0 : Has W (.slice KDo10) [.slice a0 n0 c0] x0) (x1 : Int) (w1 : (Lit.int .u64 x1).wf = true) (x2 : Int) (w2 : (Lit.int .i64 x2).wf = true) (a3 : Option Addr) (n3 c3 : Nat) (x3 : List Bool) (H3 : Has W (.slice .bool) [.slice a3 n3 c3] x3) :
    Calls Try.prog 12 #[.slice a0 n0 c0, .int .u64 x1, .int .i64 x2, .slice a3 n3 c3] W (Rets (Yes W)) := walForged_in W _ _ (Dos10.of H0) x1 (u64_le w1) x2 _ x3 (by have h := H3.bools; exact h.1)
end Go.Proofs.Ytmkpdoljaccpaaa
