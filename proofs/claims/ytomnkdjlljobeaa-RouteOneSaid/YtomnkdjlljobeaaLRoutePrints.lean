/-
  RoutePrints: the walk.
-/
import Derived.Test.YtomnkdjlljobeaaPrintD
namespace Go.Proofs.Ytomnkdjlljobeaa
open Go.RowKit Go.Canon Go.Mem Go.Args
set_option linter.unusedVariables false
set_option linter.unusedSimpArgs false
theorem AskP.cut_cut (r : AskP) : r.cut.cut = r.cut := by unfold AskP.cut; simp [List.take_take]
theorem AskP.cut_len (r : AskP) : r.cut.name.length ≤ 30 ∧ r.cut.spec.length ≤ 30 ∧ r.cut.body.length ≤ 4200 := by unfold AskP.cut; simp only [List.length_take]; omega
theorem printP_ok {a : AskP} (ha : a.Ok) (hl1 : a.name.length ≤ 30) (hl2 : a.spec.length ≤ 30) (hl3 : a.body.length ≤ 4200) : (printP a).1.Ok ∧ (printP a).1.body.length ≤ 4200 := by
  have hz : zeroR.Ok ∧ zeroR.body.length ≤ 4200 := ⟨⟨IsB.nil, IsB.nil, IsB.nil, IsB.nil⟩, by decide⟩
  unfold printP
  split
  · exact hz
  · rename_i g hk
    have := print_pack ha hl1 hl2 hl3 hk
    split
    · exact ⟨this.1, this.2.2⟩
    · exact hz
set_option maxHeartbeats 6400000 in
set_option maxRecDepth 100000 in
theorem prints_in (W : World) (r : AskP) (hr : r.Ok) (v : Value) (h1 : Rd W (fun k => k < W.heap.size) v r.body.length (Disk.bytes8 r.body)) : Calls Try.prog 10 #[askV r v] W (Rets (Yes W)) := by
  obtain ⟨A, c, rfl, _⟩ := h1.slice
  have HC := Lib.hid (fun w (hk : Keeps (fun _ => False) W w) => cut22_c (w := w) r (.slice A r.body.length c) (h1.kept hk (fun _ _ h => h)))
  have HC2 := Lib.hid (fun (w : World) (ok : Nat → Prop) u (h : Rd w ok u r.cut.body.length (Disk.bytes8 r.cut.body)) => (by have := cut22_c (w := w) r.cut u h; rwa [AskP.cut_cut] at this : Calls Try.prog 32 #[askV r.cut u] w (Rets (AskPost w r.cut))))
  obtain ⟨l1, l2, l3⟩ := r.cut_len
  have HOk := Lib.hid hr.cut
  have HP := Lib.hid (fun (w : World) (ok : Nat → Prop) u h => print23_c (w := w) (ok := ok) r.cut HOk.out l1 l2 l3 u h)
  have HP2 := Lib.hid (fun (w : World) (ok : Nat → Prop) u h => rprint23_c (w := w) (ok := ok) r.cut HOk.out l1 l2 l3 u h)
  obtain ⟨hqo, hql⟩ := printP_ok hr.cut l1 l2 l3
  have HQ := Lib.hid hqo
  unfold askV askC at HC ⊢
  clear h1 hr hqo
  generalize printP r.cut = qc at *
  obtain ⟨q, code⟩ := qc
  generalize r.cut = R at *
  simp only at hql HQ
  have hcc : (code == code) = true := by simp
  go_enter Try.func10, Try.ntmps10
  go_wp2_with (first
    | (go_at_call 31; go_loud (refine Rets.use (lives23_c _) ?_); rintro v14 w14 ⟨rfl, hk14⟩)
    | (go_at_call 29; go_loud (refine Rets.use (same23_self R HOk.out (.slice A3 R.body.length c3) (.slice A1 R.body.length c1) (hR3z.kept hk12 (fun _ _ h => h)) (hR1z.kept hk12 (fun _ _ h => h)) (by omega)) ?_); rintro _ w13 ⟨rfl, hk13⟩)
    | ((with_reducible refine at_ 32 rfl ?_); go_must (refine step_load rfl _ _ rfl W.heap.size 0 (askC R (.slice A1 R.body.length c1)) _ _ (0, 0) _ rfl (hk12.heap hb0z (fun h => h)) rfl Try.underlying58 rfl (info_askC _ _) ?_))
    | ((with_reducible refine at_ 31 rfl ?_); go_must (refine step_load rfl _ _ rfl w3.heap.size 0 (askC R (.slice A3 R.body.length c3)) _ _ (0, 0) _ rfl (hk12.heap hb1z (fun h => h)) rfl Try.underlying58 rfl (info_askC _ _) ?_))
    | (go_at_call 30; go_loud (refine Rets.use (same13_self q HQ.out (.slice A6 q.body.length c6) (.slice A9 q.body.length c9) hR6z hR9z (by omega)) ?_); rintro _ w12 ⟨rfl, hk12⟩)
    | ((with_reducible refine at_ 23 rfl ?_); go_must (refine step_load rfl _ _ rfl w9.heap.size 0 (reqC q (.slice A9 q.body.length c9)) _ _ (0, 0) _ rfl hb11 rfl Try.underlying55 rfl (info_reqC _ _) ?_))
    | ((with_reducible refine at_ 22 rfl ?_); go_must (refine step_load rfl _ _ rfl w6.heap.size 0 (reqC q (.slice A6 q.body.length c6)) _ _ (0, 0) _ rfl hb2z rfl Try.underlying55 rfl (info_reqC _ _) ?_))
    | ((with_reducible refine at_store 55 (.tmp 6) (.tmp 20) rfl ?_); go_must (refine step_store rfl _ _ _ rfl w9.heap.size 0 (reqC q (.slice A9 q.body.length c9)) _ _ rfl rfl hb10 (by simp [reqC]) (info_reqC _ _) (by simp [reqC, Value.oneCell']) ?_); intro w11 hb11 hk11 hs11; rw [put_whole (by rfl)] at hb11; have K9 := (hk9.trans hk10 (fun _ _ h => h)).trans hk11 (fun k hk h => by omega); have K6 := ((hk6.trans hk7 (fun _ _ h => h)).trans hk8 (fun k hk h => by omega)).trans K9 (fun _ _ h => h); have K3 := ((hk3.trans hk4 (fun _ _ h => h)).trans hk5 (fun k hk h => by omega)).trans K6 (fun _ _ h => h); have hb0z := K3.heap hb2 (fun h => h); have hb1z := K6.heap hb5 (fun h => h); have hb2z := K9.heap hb8 (fun h => h); have hR1z := hR1.kept K3 (fun _ _ h => h); have hR3z := hR3k.kept K6 (fun _ _ h => h); have hR6z := hO6k.rd.kept K9 (fun _ _ h => h); have hR9z := (hO9.rd.lt.kept hk10 (fun _ _ h => h)).kept hk11 (fun k h h' => by have := h.2; omega))
    | ((with_reducible refine at_ 6 rfl ?_); go_must (refine step_alloc rfl _ rfl _ [.string ⟨#[]⟩, .string ⟨#[]⟩, .string ⟨#[]⟩, .slice none 0 0] row_req rfl ?_); intro w10 hb10 hk10 hs10)
    | (go_at_call 34; go_loud (refine Rets.use (HP2.out w8 _ _ (hR1.kept hk3 (fun _ _ h => h) |>.kept hk4 (fun _ _ h => h) |>.kept hk5 (fun k h h' => by omega) |>.kept hk6 (fun _ _ h => h) |>.kept hk7 (fun _ _ h => h) |>.kept hk8 (fun k h h' => by have := hk6.size; omega))) ?_); rintro _ w9 ⟨hk9, u9, rfl, hO9⟩; obtain ⟨A9, c9, rfl, _⟩ := hO9.slice; have z9 := hk9.size)
    | ((with_reducible refine at_ 18 rfl ?_); go_must (refine step_load rfl _ _ rfl W.heap.size 0 (askC R (.slice A1 R.body.length c1)) _ _ (0, 0) _ rfl (hk8.heap (hk7.heap (hk6.heap (hk5.heap (hk4.heap (hk3.heap hb2 (fun h => h)) (fun h => h)) (fun h => by have := lt_of hb2; omega)) (fun h => h)) (fun h => h)) (fun h => by have := lt_of hb2; have := hk6.size; omega)) rfl Try.underlying58 rfl (info_askC _ _) ?_))
    | ((with_reducible refine at_store 55 (.tmp 4) (.tmp 15) rfl ?_); go_must (refine step_store rfl _ _ _ rfl w6.heap.size 0 (reqC q (.slice A6 q.body.length c6)) _ _ rfl rfl hb7 (by simp [reqC]) (info_reqC _ _) (by simp [reqC, Value.oneCell']) ?_); intro w8 hb8 hk8 hs8; rw [put_whole (by rfl)] at hb8; have hO6k := (hO6.kept hk7 (fun _ _ h => h)).kept hk8 (fun k h h' => by omega))
    | ((with_reducible refine at_ 4 rfl ?_); go_must (refine step_alloc rfl _ rfl _ [.string ⟨#[]⟩, .string ⟨#[]⟩, .string ⟨#[]⟩, .slice none 0 0] row_req rfl ?_); intro w7 hb7 hk7 hs7)
    | (go_at_call 33; go_loud (refine Rets.use (HP.out w5 _ _ hR3k) ?_); rintro _ w6 ⟨hk6, u6, rfl, hO6⟩; obtain ⟨A6, c6, rfl, _⟩ := hO6.slice; have hO6 := hO6.mono (ok' := fun k => w5.heap.size ≤ k ∧ k < w6.heap.size) (fun k hk h => ⟨h, hk⟩); have z6 := hk6.size)
    | ((with_reducible refine at_ 13 rfl ?_); go_must (refine step_load rfl _ _ rfl w3.heap.size 0 (askC R (.slice A3 R.body.length c3)) _ _ (0, 0) _ rfl hb5 rfl Try.underlying58 rfl (info_askC _ _) ?_))
    | ((with_reducible refine at_store 58 (.tmp 3) (.tmp 11) rfl ?_); go_must (refine step_store rfl _ _ _ rfl w3.heap.size 0 (askC R (.slice A3 R.body.length c3)) _ _ rfl rfl hb4 (by simp [askC_len]) (info_askC _ _) (by simp [askC, Value.oneCell']) ?_); intro w5 hb5 hk5 hs5; rw [put_whole (by rfl)] at hb5; have hR3k := (hR3.kept hk4 (fun _ _ h => h)).kept hk5 (fun k h h' => by have := h.2; omega))
    | ((with_reducible refine at_ 3 rfl ?_); go_must (refine step_alloc rfl _ rfl _ (askC zeroA (.slice none 0 0)) row_ask rfl ?_); intro w4 hb4 hk4 hs4)
    | (go_at_call 32; (have hz := hb2; clear hz); go_loud (refine Rets.use (HC2.out w2 _ _ hR1) ?_); rintro _ w3 ⟨hk3, u3, rfl, hO3⟩; obtain ⟨A3, c3, rfl, _⟩ := hO3.slice; have hR3 := hO3.rd.lt; have z3 := hk3.size)
    | ((with_reducible refine at_ 10 rfl ?_); go_must (refine step_load rfl _ _ rfl W.heap.size 0 (askC R (.slice A1 R.body.length c1)) _ _ (0, 0) _ rfl hb2 rfl Try.underlying58 rfl (info_askC _ _) ?_))
    | ((with_reducible refine at_store 58 (.tmp 1) (.tmp 9) rfl ?_); go_must (refine step_store rfl _ _ _ rfl W.heap.size 0 (askC R (.slice A1 R.body.length c1)) _ _ rfl rfl hb1 (by simp [askC_len]) (info_askC _ _) (by simp [askC, Value.oneCell']) ?_); intro w2 hb2 hk2 hs2; rw [put_whole (by rfl)] at hb2; have hR1 := ((hO1.rd.kept hk2 (fun k h h' => by omega)).lt).mono (ok' := fun k => W.heap.size + 1 ≤ k ∧ k < w2.heap.size) (fun _ h => h))
    | (go_at_call 32; go_loud (refine Rets.use (HC.out _ ((Keeps.refl _ W).alloc _)) ?_); rintro _ w1 ⟨hk1, u1, rfl, hO1⟩; obtain ⟨A1, c1, rfl, _⟩ := hO1.slice; obtain ⟨hb1, hk1, hs1⟩ := after1 hk1; have hO1 := hO1.mono (ok' := fun k => W.heap.size + 1 ≤ k) (fun k _ h => by simpa using h)))
  go_ret
  exact ⟨rfl, (((hk1.trans hk2 (fun k hk h => by omega)).trans K3 (fun _ _ h => h)).trans hk12 (fun _ _ h => h) |>.trans hk13 (fun _ _ h => h)).trans hk14 (fun _ _ h => h)⟩
theorem KAsk_of {W : World} {cs : List Value} {x : Int × ByteArray × ByteArray × List Int × Int × Int × Unit} (H : Has W (.st (.fld (.int .i64) (.fld .str (.fld .str (.fld (.slice (.int .u8)) (.fld (.int .i64) (.fld (.int .i64) .fin))))))) cs x) : ∃ (r : AskP) (v : Value), cs = askC r v ∧ r.Ok ∧ Rd W (fun k => k < W.heap.size) v r.body.length (Disk.bytes8 r.body) := by
  obtain ⟨k0, s1, s2, l, n1, n2, u⟩ := x
  obtain ⟨c0, r0, rfl, _, ⟨rfl, _⟩, c1, r1, rfl, _, ⟨rfl, _⟩, c2, r2, rfl, _, ⟨rfl, _⟩, c4, r4, rfl, h4, hb, c5, r5, rfl, _, ⟨rfl, w1⟩, c6, r6, rfl, _, ⟨rfl, w2⟩, rfl⟩ := H
  obtain ⟨v, rfl⟩ : ∃ v, c4 = [v] := by
    cases c4 with
    | nil => cases h4
    | cons v t => cases t with
      | nil => exact ⟨v, rfl⟩
      | cons => cases h4
  have hi : ∀ {n : Int}, (Lit.int .i64 n).wf = true → i64 n := fun h => by
    simp [Lit.wf, IntKind.min, IntKind.max, IntKind.signed, IntKind.bits] at h
    unfold i64; omega
  refine ⟨⟨k0, bytesOf s1, bytesOf s2, l, n1, n2⟩, v, ?_, ⟨bytesOf_byte _, bytesOf_byte _, byte_in hb, hi w1, hi w2⟩, Has.bytes hb |>.1⟩
  unfold askC
  simp only [← str_of]
  rfl
theorem routePrints_walk (W : World) (cs0 : Array Value) (x0 : Int × ByteArray × ByteArray × List Int × Int × Int × Unit) (H0 : Has W (.st (.fld (.int .i64) (.fld .str (.fld .str (.fld (.slice (.int .u8)) (.fld (.int .i64) (.fld (.int .i64) .fin))))))) cs0.toList x0) :
    Calls Try.prog 10 #[.agg cs0] W (Rets (Yes W)) := by
  obtain ⟨r, v, e, hr, h⟩ := KAsk_of H0
  have e2 : cs0 = (askC r v).toArray := by rw [← e]
  subst e2
  exact prints_in W r hr v h
end Go.Proofs.Ytomnkdjlljobeaa
