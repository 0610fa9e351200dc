/-
  The document's reader of requests: Whole.
-/
import Derived.Test.YtibegbmehpggbaaWireB
import Derived.Test.YtibegbmehpggbaaWireY
import Derived.Test.YtibegbmehpggbaaWireZ
namespace Go.Proofs.Ytibegbmehpggbaa
open Go.RowKit Go.Canon Go.Mem
set_option linter.unusedVariables false
set_option linter.unusedSimpArgs false
theorem left_first {r : Wire.S} {l : List Int} (h : r.left ≤ 2048) : (Wire.first r l).2.left ≤ 2048 := by
  unfold Wire.first
  split
  · split <;> exact h
  · exact h
theorem left_further {r : Wire.S} {l : List Int} (h : r.left ≤ 2048) : (Wire.further r l).2.left ≤ 2048 := by
  unfold Wire.further
  split
  · exact h
  · split
    · split
      · exact h
      · split <;> exact h
    · split
      · split
        · exact h
        · split
          · exact h
          · split
            · exact h
            · rename_i hh; show (readD _).1 ≤ 2048; omega
      · split
        · split
          · exact h
          · split <;> exact h
        · exact h
theorem docGo_no {f : Nat} {r : Wire.S} {a : Nat} {l : List Int} (h : (Wire.lineF a [] l).2 ≠ 0) : Wire.docGo (f + 1) r a l = (Wire.zeroR, 0, (Wire.lineF a [] l).2) := by rw [Wire.docGo, if_pos h]
theorem docGo_body {f : Nat} {r : Wire.S} {a : Nat} {l : List Int} (h : Wire.lineF a [] l = ([], 0)) (hl : r.lines ≠ 0) : Wire.docGo (f + 1) r a l = if (Wire.bodyF r (l.drop 2)).2.2 ≠ 0 then (Wire.zeroR, 0, (Wire.bodyF r (l.drop 2)).2.2) else ((Wire.bodyF r (l.drop 2)).1, (a : Int) + 2 + (Wire.bodyF r (l.drop 2)).2.1, 0) := by
  rw [Wire.docGo, h]
  rw [if_neg (by simp), if_pos ⟨hl, rfl⟩]
theorem docGo_next {f : Nat} {r : Wire.S} {a : Nat} {l s : List Int} (h : Wire.lineF a [] l = (s, 0)) (hl : r.lines = 0 ∨ s ≠ []) {p : Int × Wire.S} (hp : Wire.lineEnd (Wire.nextS r a s) s = p) : Wire.docGo (f + 1) r a l = if p.1 ≠ 0 then (Wire.zeroR, 0, p.1) else Wire.docGo f p.2 (a + s.length + 2) (l.drop (s.length + 2)) := by
  rw [Wire.docGo, h]
  rw [if_neg (by simp), if_neg (by rintro ⟨h1, h2⟩; rcases hl with h | h; exact h1 h; exact h h2), hp]
set_option maxHeartbeats 800000 in
set_option maxRecDepth 100000 in
theorem rwholeW_c {w : World} (v : Value) (l : List Int) (hr : Rd w (fun k => k < w.heap.size) v l.length (Disk.bytes8 l)) (hl : l.length ≤ 900000) (hB : IsB l) : Calls Try.prog 14 #[v] w (Rets (WholeIs w (Wire.docWhole l))) := by
  obtain ⟨A, c, rfl, _⟩ := hr.slice
  obtain ⟨w1, hw1⟩ : ∃ w1, w1 = w.alloc (.cells #[.string ⟨#[]⟩, .string ⟨#[]⟩, .string ⟨#[]⟩, .slice none 0 0] 26) := ⟨_, rfl⟩
  obtain ⟨hb1, hk1, hs1⟩ := alloc1 hw1
  obtain ⟨w2, hw2⟩ : ∃ w2, w2 = w1.alloc (.cells #[.string ⟨#[]⟩, .string ⟨#[]⟩, .string ⟨#[]⟩, .slice none 0 0, .bool false, .bool false, .bool false, .int .i64 0] 77) := ⟨_, rfl⟩
  obtain ⟨hb2, hk2, hs2⟩ := alloc1 hw2
  have HW := Lib.hid (show w2 = _ by rw [hw2, hw1])
  have HB1 := Lib.hid (hk2.heap hb1 (fun h => h))
  have HB2 := Lib.hid (show HIs w2 (w.heap.size + 1) Wire.new by rw [← hs1]; exact hb2)
  have hk12 : Keeps (fun _ => False) w w2 := hk1.trans hk2 (fun _ _ h => h)
  have HK12 := Lib.hid hk12
  have HR := Lib.hid (hr.kept hk12 (fun _ _ h => h))
  clear hw1 hw2 hb1 hb2 hk1 hk2 hk12 hr
  go_enter Try.func14, Try.ntmps14
  go_wp2
  refine name_ fun w0 hw0 => ?_
  have e0 : w0 = w2 := by rw [hw0, HW.out]
  subst e0
  clear hw0 HW
  go_loopw [6, 7, 8, 9, 10] (fun i li q0 q1 q2 wr => ∃ (a f : Nat) (r : Wire.S), a ≤ l.length ∧ i = .int .i64 (a : Int) ∧ li = .int .i64 (r.lines : Int) ∧ Hid (l.length - a < f) ∧ r.lines ≤ a ∧ r.left ≤ 2048 ∧ Hid (Wire.Fine r a) ∧ Hid (HIs wr (w.heap.size + 1) r) ∧ Hid (Wire.docGo f r a (l.drop a) = Wire.docWhole l) ∧ Hid (Keeps (fun k => k = w.heap.size + 1) w0 wr)) (fun i _ _ _ _ _ => l.length - (intOf i).toNat)
  case atStart => exact ⟨0, l.length + 1, Wire.new, by omega, rfl, rfl, Lib.hid (by omega), Nat.le_refl _, by decide, Lib.hid Wire.Fine.new, HB2, Lib.hid rfl, Lib.hid (Keeps.refl _ _)⟩
  case round =>
    obtain ⟨a, f, r, ha, rfl, rfl, HFu, hla, hlf, HFi, HH, HGo, HK⟩ := hrel
    have hz : w0.heap.size = w.heap.size + 2 := by omega
    have HRr := Lib.hid (HR.out.kept HK.out (fun k h h' => by omega))
    have HBr := Lib.hid (HK.out.heap HB1.out (fun h => by omega))
    have HLc := Lib.hid (rline_c (.slice A l.length c) l a ha HRr.out hl hB)
    have hl0 := HFi.out.left
    cases f with
    | zero => have := HFu.out; omega
    | succ f =>
    obtain ⟨p, hp⟩ : ∃ p, Wire.lineF a [] (l.drop a) = p := ⟨_, rfl⟩
    have hgo := HGo.out
    rw [hp] at HLc
    by_cases he : p.2 = 0
    · obtain ⟨s, e⟩ := p
      have he : e = 0 := he
      subst he
      obtain ⟨hd1, hd2⟩ := Wire.lineF_drop hp
      rw [List.length_drop] at hd2
      have HSb := Lib.hid (show IsB s from fun x hx => hB.drop a x (List.mem_of_mem_take (show x ∈ (l.drop a).take (s.length + 2) by rw [hd1]; simp [hx])))
      have HLv := Lib.hid (show lineV (s, 0) = .tuple #[.string (str s), .int .i64 ((s.length : Nat) + 2 : Int), .int .i64 0] from rfl)
      rw [HLv.out] at HLc
      clear hd1 HGo
      obtain ⟨nl, hnl⟩ : ∃ nl, s.length = nl := ⟨_, rfl⟩
      rw [hnl] at HLc hd2
      have HNL := Lib.hid hnl
      have HP := Lib.hid hp
      clear hp hnl
      by_cases h0 : r.lines = 0
      · have e1 : ((r.lines : Int) + 1 == 1) = true := by rw [h0]; rfl
        have HLE := Lib.hid (show Wire.lineEnd (Wire.nextS r a s) s = Wire.first (Wire.nextS r a s) s by unfold Wire.lineEnd; rw [if_pos (by show r.lines + 1 = 1; omega)])
        have HG := Lib.hid ((docGo_next HP.out (.inl h0) HLE.out).symm.trans hgo)
        have HFn := Lib.hid (((HFi.out.next s).first s).1)
        have HFl := Lib.hid (((HFi.out.next s).first s).2)
        have hlf2 := left_first (r := Wire.nextS r a s) (l := s) hlf
        have HC := Lib.hid (fun (x : World) (h : HIs x (w.heap.size + 1) r) => rfirst_c (w := x) (s := Wire.nextS r a s) h s HSb.out (by rw [HNL.out]; omega))
        clear hgo h0
        obtain ⟨q, hq⟩ : ∃ q, (Wire.lineEnd (Wire.nextS r a s) s) = q := ⟨_, rfl⟩
        rw [HLE.out] at hq
        rw [hq] at HG HFn HFl hlf2
        have HC := Lib.hid (show ∀ (x : World) (h : HIs x (w.heap.size + 1) r), Calls Try.prog 35 #[.pointer (some ⟨w.heap.size + 1, 0, none⟩), .string (str s)] x (Rets (HStep x (w.heap.size + 1) q)) from fun x h => by rw [← hq]; exact HC.out x h)
        clear hq HLE
        obtain ⟨e2, r2⟩ := q
        by_cases he2 : e2 = 0
        · subst he2
          have HGo := Lib.hid (show Wire.docGo f r2 (a + nl + 2) (l.drop (a + nl + 2)) = Wire.docWhole l by have := HG.out; rw [if_neg (by simp), List.drop_drop, HNL.out] at this; rw [Nat.add_assoc a nl 2]; rw [Nat.add_assoc a nl 2] at this; exact this)
          have hrl : r2.lines = r.lines + 1 := HFl.out
          clear HG
          go_wp2_with (first
            | (go_at_call 34; refine Rets.use HLc.out ?_; rintro v1 w1' ⟨rfl, rfl⟩)
            | (go_at_call 35; refine Rets.use (HC.out _ HH.out) ?_; rintro v2 w3 ⟨rfl, hh3, hk3⟩))
          go_roundw
          case rel => exact ⟨a + nl + 2, f, r2, by omega, by go_num, by rw [hrl]; go_num, Lib.hid (by have := HFu.out; omega), by omega, hlf2, Lib.hid (by have := HFn.out; rwa [HNL.out] at this), Lib.hid (by first | exact hh3 rfl | exact hh3 trivial), HGo, Lib.hid (HK.out.trans hk3 (fun _ _ h => h))⟩
          case measure => simp [intOf]; omega
        · have HT := Lib.hid (show Wire.docWhole l = (Wire.zeroR, 0, e2) by have := HG.out; rw [if_pos he2] at this; exact this.symm)
          have hne2 : (e2 != 0) = true := by simpa using he2
          clear HG he2
          go_wp2_with (first
            | (go_at_call 34; refine Rets.use HLc.out ?_; rintro v1 w1' ⟨rfl, rfl⟩)
            | (go_at_call 35; refine Rets.use (HC.out _ HH.out) ?_; rintro v2 w3 ⟨rfl, hh3, hk3⟩; have HK3 := Lib.hid (HK.out.trans hk3 (fun _ _ h => h)); have HB3 := Lib.hid (hk3.heap HBr.out (fun h => by omega)))
            | ((with_reducible refine at_store 26 (.tmp 2) (.tmp 50) rfl ?_); go_must (refine step_store rfl _ _ _ rfl w.heap.size 0 zq _ _ rfl rfl HB3.out (by simp [zq]) info_req (by simp [zq, Value.oneCell']) ?_); intro w4 hb4 hk4 hs4; rw [put_whole (by rfl)] at hb4))
          refine bodyPost_ret (ret_cell_tmp2 rfl zq _ rfl hb4 Try.underlying26 rfl info_req) rfl ?_
          rw [HT.out]
          have hkA : Keeps (fun k => w.heap.size ≤ k) w w4 := ((HK12.out.mono (fun _ _ h => h.elim)).trans HK3.out (fun k _ h => by omega)).trans hk4 (fun k _ h => by omega)
          exact ⟨hkA.mono (fun k hk h => by omega), .slice none 0 0, rfl, OwnRow.nil _ _ _ _⟩
      · have e1 : ((r.lines : Int) + 1 == 1) = false := by rw [beq_eq_false_iff_ne]; omega
        by_cases hs : s = []
        · have hE : ((str s).toList == []) = true := by rw [hs, ByteArray.toList_eq]; rfl
          have hnl0 : nl = 0 := by rw [← HNL.out, hs]; rfl
          subst hnl0
          have HP2 := Lib.hid (show Wire.lineF a [] (l.drop a) = ([], 0) by rw [HP.out, hs])
          have hg := (docGo_body HP2.out h0).symm.trans hgo
          rw [List.drop_drop] at hg
          have hbd := fun (x : World) (h : HIs x (w.heap.size + 1) r) (hw : w0.heap.size ≤ x.heap.size) (hr2 : Rd x (fun k => k < w0.heap.size) (.slice A l.length c) l.length (Disk.bytes8 l)) => rbody_c h (fun k hk => Nat.lt_of_lt_of_le hk hw) (.slice A l.length c) l (a + 2) (by omega) hr2 hl hB hl0 hlf
          obtain ⟨q, hq⟩ : ∃ q, Wire.bodyF r (l.drop (a + 2)) = q := ⟨_, rfl⟩
          rw [hq] at hg hbd
          have HBd := Lib.hid hbd
          clear hgo hs hq hbd h0
          obtain ⟨qx, qn, qe⟩ := q
          by_cases hqe : qe = 0
          · subst hqe
            have HT := Lib.hid (show Wire.docWhole l = (qx, (a : Int) + 2 + qn, 0) from hg.symm)
            clear hg
            go_wp2_with (first
              | (go_at_call 34; refine Rets.use HLc.out ?_; rintro v1 w1' ⟨rfl, rfl⟩)
              | (go_at_call 36; refine Rets.use (HBd.out _ HH.out HK.out.size (HRr.out.mono (fun k h => by omega))) ?_; rintro v2 w3 ⟨hk3, u, hv, hO3⟩; rw [if_pos rfl] at hv hO3; subst hv; obtain ⟨Au, cu, rfl, _⟩ := hO3.slice; have HO3 := Lib.hid hO3; clear hO3; have HB3 := Lib.hid (hk3.heap HBr.out (fun h => by omega)))
              | ((with_reducible refine at_store 26 (.tmp 2) (.tmp 40) rfl ?_); go_must (refine step_store rfl _ _ _ rfl w.heap.size 0 (reqC qx (.slice Au qx.body.length cu)) _ _ rfl rfl HB3.out (by simp [reqC]) info_req (by simp [reqC, Value.oneCell']) ?_); intro w4 hb4 hk4 hs4; rw [put_whole (by rfl)] at hb4))
            refine bodyPost_ret (ret_cell_tmp2 rfl (reqC qx (.slice Au qx.body.length cu)) _ rfl hb4 Try.underlying26 rfl info_req) rfl ?_
            rw [HT.out]
            have hzr := HK.out.size
            have hkA : Keeps (fun k => w.heap.size ≤ k) w w4 := (((HK12.out.mono (fun _ _ h => h.elim)).trans HK.out (fun k _ h => by omega)).trans hk3 (fun k _ h => by omega)).trans hk4 (fun k _ h => by omega)
            exact ⟨hkA.mono (fun k hk h => by omega), .slice Au qx.body.length cu, by rfl, (HO3.out.kept hk4 (fun k h h' => by omega)).mono (fun k _ h => by omega)⟩
          · have HT := Lib.hid (show Wire.docWhole l = (Wire.zeroR, 0, qe) from hg.symm.trans (if_pos hqe))
            have HNe := Lib.hid hqe
            clear hg hqe
            go_wp2_with (first
              | (go_at_call 34; refine Rets.use HLc.out ?_; rintro v1 w1' ⟨rfl, rfl⟩)
              | (go_at_call 36; refine Rets.use (HBd.out _ HH.out HK.out.size (HRr.out.mono (fun k h => by omega))) ?_; rintro v2 w3 ⟨hk3, u, hv, hO3⟩; rw [if_neg HNe.out] at hv hO3; subst hv; subst hO3; have HB3 := Lib.hid (hk3.heap HBr.out (fun h => by omega)))
              | ((with_reducible refine at_store 26 (.tmp 2) (.tmp 40) rfl ?_); go_must (refine step_store rfl _ _ _ rfl w.heap.size 0 zq _ _ rfl rfl HB3.out (by simp [zq]) info_req (by simp [zq, Value.oneCell']) ?_); intro w4 hb4 hk4 hs4; rw [put_whole (by rfl)] at hb4))
            have HK3 := Lib.hid (HK.out.trans hk3 (fun _ _ h => h))
            refine bodyPost_ret (ret_cell_tmp2 rfl zq _ rfl hb4 Try.underlying26 rfl info_req) rfl ?_
            rw [HT.out]
            have hkA : Keeps (fun k => w.heap.size ≤ k) w w4 := ((HK12.out.mono (fun _ _ h => h.elim)).trans HK3.out (fun k _ h => by omega)).trans hk4 (fun k _ h => by omega)
            exact ⟨hkA.mono (fun k hk h => by omega), .slice none 0 0, rfl, OwnRow.nil _ _ _ _⟩
        · have hE := str_nil hs
          by_cases h17 : 17 < r.lines + 1
          · have HLE := Lib.hid (show Wire.lineEnd (Wire.nextS r a s) s = (5, Wire.nextS r a s) by unfold Wire.lineEnd; rw [if_neg (by show ¬ r.lines + 1 = 1; omega), if_neg hs, if_pos (by exact h17)])
            have HT := Lib.hid (show Wire.docWhole l = (Wire.zeroR, 0, 5) from (((docGo_next HP.out (.inr hs) HLE.out).symm.trans hgo).symm.trans (if_pos (show (5 : Int) ≠ 0 by decide))))
            clear hgo h0 hs
            go_wp2_with (first
              | (go_at_call 34; refine Rets.use HLc.out ?_; rintro v1 w1' ⟨rfl, rfl⟩)
              | ((with_reducible refine at_store 26 (.tmp 2) (.tmp 50) rfl ?_); go_must (refine step_store rfl _ _ _ rfl w.heap.size 0 zq _ _ rfl rfl HBr.out (by simp [zq]) info_req (by simp [zq, Value.oneCell']) ?_); intro w4 hb4 hk4 hs4; rw [put_whole (by rfl)] at hb4))
            refine bodyPost_ret (ret_cell_tmp2 rfl zq _ rfl hb4 Try.underlying26 rfl info_req) rfl ?_
            rw [HT.out]
            have hkA : Keeps (fun k => w.heap.size ≤ k) w w4 := ((HK12.out.mono (fun _ _ h => h.elim)).trans HK.out (fun k _ h => by omega)).trans hk4 (fun k _ h => by omega)
            exact ⟨hkA.mono (fun k hk h => by omega), .slice none 0 0, rfl, OwnRow.nil _ _ _ _⟩
          · have HLE := Lib.hid (show Wire.lineEnd (Wire.nextS r a s) s = Wire.further (Wire.nextS r a s) s by unfold Wire.lineEnd; rw [if_neg (by show ¬ r.lines + 1 = 1; omega), if_neg hs, if_neg (by exact h17)])
            have HG := Lib.hid ((docGo_next HP.out (.inr hs) HLE.out).symm.trans hgo)
            have HFn := Lib.hid (((HFi.out.next s).further s).1)
            have HFl := Lib.hid (((HFi.out.next s).further s).2)
            have hlf2 := left_further (r := Wire.nextS r a s) (l := s) hlf
            have HC := Lib.hid (fun (x : World) (h : HIs x (w.heap.size + 1) r) => rfurther_c (w := x) (s := Wire.nextS r a s) h s HSb.out (by rw [HNL.out]; omega))
            clear hgo h0 hs
            obtain ⟨q, hq⟩ : ∃ q, (Wire.lineEnd (Wire.nextS r a s) s) = q := ⟨_, rfl⟩
            rw [HLE.out] at hq
            rw [hq] at HG HFn HFl hlf2
            have HC := Lib.hid (show ∀ (x : World) (h : HIs x (w.heap.size + 1) r), Calls Try.prog 37 #[.pointer (some ⟨w.heap.size + 1, 0, none⟩), .string (str s)] x (Rets (HStep x (w.heap.size + 1) q)) from fun x h => by rw [← hq]; exact HC.out x h)
            clear hq HLE
            obtain ⟨e2, r2⟩ := q
            by_cases he2 : e2 = 0
            · subst he2
              have HGo := Lib.hid (show Wire.docGo f r2 (a + nl + 2) (l.drop (a + nl + 2)) = Wire.docWhole l by have := HG.out; rw [if_neg (by simp), List.drop_drop, HNL.out] at this; rw [Nat.add_assoc a nl 2]; rw [Nat.add_assoc a nl 2] at this; exact this)
              have hrl : r2.lines = r.lines + 1 := HFl.out
              clear HG
              go_wp2_with (first
                | (go_at_call 34; refine Rets.use HLc.out ?_; rintro v1 w1' ⟨rfl, rfl⟩)
                | (go_at_call 37; refine Rets.use (HC.out _ HH.out) ?_; rintro v2 w3 ⟨rfl, hh3, hk3⟩))
              go_roundw
              case rel => exact ⟨a + nl + 2, f, r2, by omega, by go_num, by rw [hrl]; go_num, Lib.hid (by have := HFu.out; omega), by omega, hlf2, Lib.hid (by have := HFn.out; rwa [HNL.out] at this), Lib.hid (by first | exact hh3 rfl | exact hh3 trivial), HGo, Lib.hid (HK.out.trans hk3 (fun _ _ h => h))⟩
              case measure => simp [intOf]; omega
            · have HT := Lib.hid (show Wire.docWhole l = (Wire.zeroR, 0, e2) by have := HG.out; rw [if_pos he2] at this; exact this.symm)
              have hne2 : (e2 != 0) = true := by simpa using he2
              clear HG he2
              go_wp2_with (first
                | (go_at_call 34; refine Rets.use HLc.out ?_; rintro v1 w1' ⟨rfl, rfl⟩)
                | (go_at_call 37; refine Rets.use (HC.out _ HH.out) ?_; rintro v2 w3 ⟨rfl, hh3, hk3⟩; have HK3 := Lib.hid (HK.out.trans hk3 (fun _ _ h => h)); have HB3 := Lib.hid (hk3.heap HBr.out (fun h => by omega)))
                | ((with_reducible refine at_store 26 (.tmp 2) (.tmp 50) rfl ?_); go_must (refine step_store rfl _ _ _ rfl w.heap.size 0 zq _ _ rfl rfl HB3.out (by simp [zq]) info_req (by simp [zq, Value.oneCell']) ?_); intro w4 hb4 hk4 hs4; rw [put_whole (by rfl)] at hb4))
              refine bodyPost_ret (ret_cell_tmp2 rfl zq _ rfl hb4 Try.underlying26 rfl info_req) rfl ?_
              rw [HT.out]
              have hkA : Keeps (fun k => w.heap.size ≤ k) w w4 := ((HK12.out.mono (fun _ _ h => h.elim)).trans HK3.out (fun k _ h => by omega)).trans hk4 (fun k _ h => by omega)
              exact ⟨hkA.mono (fun k hk h => by omega), .slice none 0 0, rfl, OwnRow.nil _ _ _ _⟩
    · have HT := Lib.hid (show Wire.docWhole l = (Wire.zeroR, 0, p.2) by rw [← hgo, docGo_no (by rw [hp]; exact he), hp])
      have HLv := Lib.hid (show lineV p = .tuple #[.string (str []), .int .i64 0, .int .i64 p.2] by unfold lineV; rw [if_neg he])
      rw [HLv.out] at HLc
      have hne : (p.2 != 0) = true := by simpa using he
      clear hp hgo he HGo
      obtain ⟨s, e⟩ := p
      simp only at *
      go_wp2_with (first
        | (go_at_call 34; refine Rets.use HLc.out ?_; rintro v1 w1' ⟨rfl, rfl⟩)
        | ((with_reducible refine at_store 26 (.tmp 2) (.tmp 22) rfl ?_); go_must (refine step_store rfl _ _ _ rfl w.heap.size 0 zq _ _ rfl rfl HBr.out (by simp [zq]) info_req (by simp [zq, Value.oneCell']) ?_); intro w4 hb4 hk4 hs4; rw [put_whole (by rfl)] at hb4))
      refine bodyPost_ret (ret_cell_tmp2 rfl zq _ rfl hb4 Try.underlying26 rfl info_req) rfl ?_
      rw [HT.out]
      have hkA : Keeps (fun k => w.heap.size ≤ k) w w4 := ((HK12.out.mono (fun _ _ h => h.elim)).trans HK.out (fun k _ h => by omega)).trans hk4 (fun k _ h => by omega)
      exact ⟨hkA.mono (fun k hk h => by omega), .slice none 0 0, rfl, OwnRow.nil _ _ _ _⟩
end Go.Proofs.Ytibegbmehpggbaa
