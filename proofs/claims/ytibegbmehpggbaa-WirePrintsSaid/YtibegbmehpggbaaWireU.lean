/-
  The document's Print of requests.
-/
import Derived.Test.YtibegbmehpggbaaWireQ
namespace Go.Proofs.Ytibegbmehpggbaa
open Go.RowKit Go.Canon Go.Mem
set_option linter.unusedVariables false
set_option linter.unusedSimpArgs false
/-- No part of a reader's request is long. -/
structure WShort (s : Wire.S) : Prop where
  m : s.x.method.length ≤ 10
  t : s.x.target.length ≤ 100
  k : s.x.token.length ≤ 1100
theorem WShort.put {s : Wire.S} {n : Nat} (h : WShort s) (hg : WGood s n) (b : Int) : WShort (Wire.put s b).2 := by
  have hf : ∀ (r : Wire.S) (l : List Int), WShort r → WShort (Wire.first r l).2 := by
    intro r l h
    unfold Wire.first
    split
    · rename_i a t c he
      split
      · rename_i hh
        refine ⟨?_, ?_, h.k⟩
        · have hv := hh.2.1
          unfold Wire.verb at hv
          simp only [Bool.or_eq_true, decide_eq_true_eq] at hv
          show a.length ≤ 10
          rcases hv with (h | h) | h <;> rw [h] <;> decide
        · have ht := hh.2.2
          unfold Wire.target at ht
          simp only [Bool.and_eq_true, decide_eq_true_eq] at ht
          show t.length ≤ 100
          omega
      · exact h
    · exact h
  have hu : ∀ (r : Wire.S) (l : List Int), l.length ≤ 1024 → WShort r → WShort (Wire.further r l).2 := by
    intro r l hl h
    unfold Wire.further
    split
    · exact h
    · rename_i k v he
      have hv : v.length ≤ l.length := by
        unfold Wire.split at he
        split at he
        · have := Option.some.inj he
          obtain ⟨_, rfl⟩ := Prod.mk.inj this
          rw [List.length_drop]; omega
        · cases he
      split
      · split
        · exact h
        · split
          · exact ⟨h.m, h.t, h.k⟩
          · exact ⟨h.m, h.t, by show (v.drop 7).length ≤ 1100; rw [List.length_drop]; omega⟩
      · split
        · split
          · exact h
          · split
            · exact ⟨h.m, h.t, h.k⟩
            · split <;> exact ⟨h.m, h.t, h.k⟩
        · split
          · split
            · exact h
            · split <;> exact ⟨h.m, h.t, h.k⟩
          · exact h
  unfold Wire.put
  split
  · exact h
  · have : WShort (Wire.step s b).2 := by
      unfold Wire.step
      split
      · unfold Wire.body
        split
        · exact ⟨h.m, h.t, h.k⟩
        · split <;> exact ⟨h.m, h.t, h.k⟩
      · unfold Wire.heads
        split
        · exact h
        · split
          · exact ⟨h.m, h.t, h.k⟩
          · split
            · exact ⟨h.m, h.t, h.k⟩
            · have h1 := hg.line
              have h2 := hg.head
              have hd : s.line.dropLast.length ≤ 1024 := by rw [List.length_dropLast]; omega
              have hs : WShort { s with head := s.head + 1, line := [], lines := s.lines + 1 } := ⟨h.m, h.t, h.k⟩
              unfold Wire.lineEnd
              split
              · exact hf _ _ hs
              · split
                · unfold Wire.ends; split <;> exact ⟨h.m, h.t, h.k⟩
                · split
                  · exact hs
                  · exact hu _ _ hd hs
    exact ⟨this.m, this.t, this.k⟩
theorem whole_short {l : List Int} (hB : IsB l) : (Wire.whole l).1.method.length ≤ 10 ∧ (Wire.whole l).1.target.length ≤ 100 ∧ (Wire.whole l).1.token.length ≤ 1100 := by
  have key : ∀ (l : List Int) (r : Wire.S) (n : Nat) (i : Int), WGood r n → WShort r → IsB l → (Wire.go r l i).1.method.length ≤ 10 ∧ (Wire.go r l i).1.target.length ≤ 100 ∧ (Wire.go r l i).1.token.length ≤ 1100 := by
    intro l
    induction l with
    | nil => intro r n i _ _ _; simp [Wire.go, Wire.zeroR]
    | cons b l ih =>
      intro r n i hg hs hb
      have hg2 := hg.put (b := b) (hb b (by simp))
      have hs2 := hs.put hg b
      rw [go_cons]
      split
      · simp [Wire.zeroR]
      · split
        · exact ⟨hs2.m, hs2.t, hs2.k⟩
        · exact ih _ (n + 1) (i + 1) hg2 hs2 (fun x hx => hb x (by simp [hx]))
  exact key l Wire.new 0 0 WGood.new ⟨by decide, by decide, by decide⟩ hB
theorem printF_short {x : ReqP} (hx : x.Ok) (h : 10 < x.method.length ∨ 100 < x.target.length ∨ 1100 < x.token.length) : Wire.printF x = ([], 4) := by
  unfold Wire.printF
  split
  · rfl
  · rw [if_neg]
    intro hw
    have := whole_short (text_b hx)
    rw [hw] at this
    simp only at this
    omega
set_option maxHeartbeats 6400000 in
set_option maxRecDepth 100000 in
theorem rprint_c {w : World} (x : ReqP) (hx : x.Ok) (hf : x.Few) (v : Value) (hr : Rd w (fun k => k < w.heap.size) v x.body.length (Disk.bytes8 x.body)) : Calls Try.prog 26 #[reqV x v] w (Rets (PrintIs w (Wire.printF x))) := by
  obtain ⟨A, c, rfl, hc, _⟩ := hr.slice
  have f1 := hf.m
  have f2 := hf.t
  have f3 := hf.k
  have f4 := hf.b
  have z1 := str_size x.method
  have z2 := str_size x.target
  have z3 := str_size x.token
  unfold reqV
  obtain ⟨sm, hsm⟩ : ∃ s, s = str x.method := ⟨_, rfl⟩
  obtain ⟨st, hst⟩ : ∃ s, s = str x.target := ⟨_, rfl⟩
  obtain ⟨sk, hsk⟩ : ∃ s, s = str x.token := ⟨_, rfl⟩
  obtain ⟨w1, hw1⟩ : ∃ w1, w1 = w.alloc (.cells #[.string sm, .string st, .string sk, .slice A x.body.length c] 26) := ⟨_, rfl⟩
  obtain ⟨hb1, hk1, hs1⟩ := alloc1 hw1
  have c0 : w1.cell? ⟨w.heap.size, 0, none⟩ = some (.string sm) := cell_of_row w1 _ _ _ _ _ hb1
  have c1 : w1.cell? ⟨w.heap.size, 1, none⟩ = some (.string st) := cell_of_row w1 _ _ _ _ _ hb1
  have c2 : w1.cell? ⟨w.heap.size, 2, none⟩ = some (.string sk) := cell_of_row w1 _ _ _ _ _ hb1
  have c3 : w1.cell? ⟨w.heap.size, 3, none⟩ = some (.slice A x.body.length c) := cell_of_row w1 _ _ _ _ _ hb1
  rw [← hsm, ← hst, ← hsk]
  rw [← hsm] at z1
  rw [← hst] at z2
  rw [← hsk] at z3
  have HW := Lib.hid hw1
  have HB1 := Lib.hid (show w1.heap[w.heap.size]? = some (.cells (reqC x (.slice A x.body.length c)).toArray 26 (0, 0)) by rw [hsm, hst, hsk] at hb1; exact hb1)
  have HC3 := Lib.hid c3
  rw [hw1] at c0 c1 c2 c3
  have HR := Lib.hid (hr.kept hk1 (fun _ _ h => h))
  have HX := Lib.hid hx
  have HF := Lib.hid hf
  have HPs := Lib.hid (printF_short hx)
  by_cases g1 : 10 < x.method.length
  · have HQ := Lib.hid (HPs.out (.inl g1))
    clear hw1 hb1 hr hx hf hsm hst hsk HPs
    go_enter Try.func26, Try.ntmps26
    go_wp2
    go_ret2
    rw [← HW.out]
    rw [HQ.out]
    exact ⟨hk1, .slice none 0 0, rfl, Rd.nil _ _⟩
  · by_cases g2 : 100 < x.target.length
    · have HQ := Lib.hid (HPs.out (.inr (.inl g2)))
      clear hw1 hb1 hr hx hf hsm hst hsk HPs
      go_enter Try.func26, Try.ntmps26
      go_wp2
      go_ret2
      rw [← HW.out]
      rw [HQ.out]
      exact ⟨hk1, .slice none 0 0, rfl, Rd.nil _ _⟩
    · by_cases g3 : 1100 < x.token.length
      · have HQ := Lib.hid (HPs.out (.inr (.inr g3)))
        clear hw1 hb1 hr hx hf hsm hst hsk HPs
        go_enter Try.func26, Try.ntmps26
        go_wp2
        go_ret2
        rw [← HW.out]
        rw [HQ.out]
        exact ⟨hk1, .slice none 0 0, rfl, Rd.nil _ _⟩
      · by_cases hbig : 2048 < x.body.length
        · have HQ := Lib.hid (show Wire.printF x = ([], 4) by unfold Wire.printF; rw [if_pos hbig])
          clear hw1 hb1 hr hx hf hsm hst hsk HPs
          go_enter Try.func26, Try.ntmps26
          go_wp2
          go_ret2
          rw [← HW.out]
          rw [HQ.out]
          exact ⟨hk1, .slice none 0 0, rfl, Rd.nil _ _⟩
        · have HQ0 := Lib.hid (show Wire.printF x = if Wire.whole (Wire.text x) = (x, ((Wire.text x).length : Int), 0) then (Wire.text x, 0) else ([], 4) by unfold Wire.printF; rw [if_neg hbig])
          clear HPs
          obtain ⟨s1, hs1'⟩ : ∃ s, s = str (x.method ++ [32]) := ⟨_, rfl⟩
          obtain ⟨s2, hs2'⟩ : ∃ s, s = str ((x.method ++ [32]) ++ x.target) := ⟨_, rfl⟩
          obtain ⟨s3, hs3'⟩ : ∃ s, s = str (Wire.headT x) := ⟨_, rfl⟩
          have a1 : ∀ w', (Op.stringOp .add sm ⟨#[32]⟩).run Try.prog w' = .ok (.string s1) w' := fun w' => by rw [hs1', hsm]; exact add_str (b := [32]) (by simp only [List.length_cons, List.length_nil]; omega) w'
          have a2 : ∀ w', (Op.stringOp .add s1 st).run Try.prog w' = .ok (.string s2) w' := fun w' => by rw [hs1', hs2', hst]; exact add_str (by simp only [List.length_append, List.length_cons, List.length_nil]; omega) w'
          have a3 : ∀ w', (Op.stringOp .add s2 ⟨#[32, 72, 84, 84, 80, 47, 49, 46, 49, 13, 10]⟩).run Try.prog w' = .ok (.string s3) w' := fun w' => by rw [hs2', hs3']; exact add_str (b := Wire.hv) (by simp only [Wire.hv, List.length_append, List.length_cons, List.length_nil]; omega) w'
          have hhl : (Wire.headT x).length ≤ 300 := by unfold Wire.headT Wire.hv; simp only [List.length_append, List.length_cons, List.length_nil]; omega
          by_cases ht : x.token = []
          · have hE : x.token.length ≤ 0 := by rw [ht]; exact Nat.le_refl _
            obtain ⟨s4, hs4'⟩ : ∃ s, s = str (Wire.withA x) := ⟨_, rfl⟩
            have e34 : s3 = s4 := by rw [hs3', hs4']; unfold Wire.withA; rw [if_pos ht]
            rw [e34] at a3
            have hal : (Wire.withA x).length ≤ 1700 := by unfold Wire.withA; rw [if_pos ht]; omega
            obtain ⟨sf, hsf⟩ : ∃ s, s = str (Wire.front x) := ⟨_, rfl⟩
            have HSf := Lib.hid hsf
            have HK1 := Lib.hid hk1
            have HS1 := Lib.hid hs1
            clear hs1
            by_cases hb : x.body = []
            · have e0 : x.body.length ≤ 0 := by rw [hb]; exact Nat.le_refl _
              have ae : ∀ w', (Op.stringOp .add s4 ⟨#[13, 10]⟩).run Try.prog w' = .ok (.string sf) w' := fun w' => by rw [hs4', hsf]; unfold Wire.front Wire.withL; rw [if_pos hb]; exact add_str (b := Wire.crlf) (by simp only [Wire.crlf, List.length_cons, List.length_nil]; omega) w'
              clear hw1 hb1 hr hx hf hsm hst hsk hs1' hs2' hs3' hs4' hsf ht hb hk1
              obtain ⟨t, htt⟩ : ∃ t, Wire.whole (Wire.text x) = t := ⟨_, rfl⟩
              have HTT := Lib.hid (show Wire.docWhole (Wire.text x) = t by rw [← Wire.whole_doc]; exact htt)
              have htl : (Wire.text x).length ≤ 4100 := by have := front_len HF.out; unfold Wire.text; rw [List.length_append]; omega
              have hgd := whole_good (Wire.text x) (text_b HX.out)
              rw [htt] at hgd
              have HYo := Lib.hid hgd.1
              obtain ⟨y, n, e⟩ := t
              rw [htt] at HQ0
              clear htt hgd
              by_cases he : e = 0
              · have heb : (e != 0) = false := by rw [he]; rfl
                by_cases hn : n = ((Wire.text x).length : Int)
                · have hnb : (n != ((Wire.text x).length : Int)) = false := by rw [hn]; simp
                  by_cases q4 : x = y
                  · have hd : decide (x = y) = true := decide_eq_true q4
                    have HD := Lib.hid hd
                    have HQ := Lib.hid (show Wire.printF x = (Wire.text x, 0) from HQ0.out.trans (if_pos (by rw [Prod.mk.injEq, Prod.mk.injEq]; exact ⟨q4.symm, hn, he⟩)))
                    clear HQ0 he hn q4 hd
                    go_enter Try.func26, Try.ntmps26
                    go_wp2_with (first
                      | (go_at_call 42; refine Rets.use (HDe.out _) ?_; rintro _ _ ⟨rfl, rfl⟩)
                      | ((with_reducible refine at_ 62 rfl ?_); rw [← HW.out]; go_must (refine step_str_mrow2 rfl _ _ _ rfl Try.underlying9 Try.underlying22 Try.underlying5 (Wire.front x) (front_b HX.out) (by rw [← HSf.out]; rfl) ?_); intro cc w3 hm3 hk3; have HM3 := Lib.hid hm3; have HK3 := Lib.hid hk3; have c3 := hk3.cell HC3.out (fun h => h); clear hm3)
                      | ((with_reducible refine at_ 65 rfl ?_); go_must (refine step_append_m rfl _ _ _ rfl Try.underlying22 row_byte w1.heap.size cc (Wire.front x) x.body rfl HM3.out (.slice A x.body.length c) rfl (HR.out.kept HK3.out (fun _ _ h => h)) (by have := front_len HF.out; omega) ?_); intro v4 w4 hr4 hk4; have HR4 := Lib.hid (show Rd w4 _ v4 (Wire.text x).length (Disk.bytes8 (Wire.text x)) from hr4); obtain ⟨A4, c4, hv4, _⟩ := hr4.slice; replace hv4 : v4 = .slice A4 (Wire.text x).length c4 := hv4; subst hv4; have HK4 := Lib.hid hk4; clear hr4)
                      | (go_at_call 14; refine Rets.use (rwholeW_c (.slice A4 (Wire.text x).length c4) (Wire.text x) (HR4.out.lt.mono (fun k h => h.2)) (by omega) (text_b HX.out)) ?_; rw [HTT.out]; rintro v5 w5 ⟨hk5, u5, rfl, hO5⟩; have HO5 := Lib.hid hO5; obtain ⟨A5, c5, rfl, _⟩ := hO5.slice; have HK5 := Lib.hid hk5; clear hO5)
                      | ((with_reducible refine at_ 6 rfl ?_); go_must (refine step_alloc rfl _ rfl _ zq row_req rfl ?_); intro w6 hb6 hk6 hs6)
                      | ((with_reducible refine at_store 26 (.tmp 6) (.tmp 69) rfl ?_); go_must (refine step_store rfl _ _ _ rfl w5.heap.size 0 (reqC y (.slice A5 y.body.length c5)) _ _ rfl rfl hb6 (by simp [zq, reqC]) (info_reqC _ _) (by simp [reqC, Value.oneCell']) ?_); intro w7 hb7 hk7 hs7; rw [put_whole (by rfl)] at hb7; have HK7 := Lib.hid (fresh_set (Keeps.refl _ w5) hk6 hk7); have HB7 := Lib.hid hb7; have HK57 := Lib.hid (HK5.out.trans HK7.out (fun _ _ h => h)); have HKx := Lib.hid (((HK3.out.mono (S' := fun k => k = w1.heap.size) (fun _ _ h => h.elim)).trans HK4.out (fun _ _ h => h)).trans HK57.out (fun _ _ h => h.elim)); have HK07 := Lib.hid (((HK1.out.mono (S' := fun k => w.heap.size ≤ k) (fun _ _ h => h.elim)).trans HKx.out (fun k _ h => by have := HS1.out; omega)).mono (S' := fun _ => False) (fun k hk h => by omega)); have HBx := Lib.hid (HKx.out.heap HB1.out (fun h => by have h2 : w.heap.size = w1.heap.size := h; have := HS1.out; omega)); clear hb7 hb6 hk6 hk7)
                      | ((with_reducible refine at_ 81 rfl ?_); (refine step_load rfl _ _ rfl w.heap.size 0 (reqC x (.slice A x.body.length c)) _ _ (0, 0) _ rfl HBx.out rfl Try.underlying26 rfl (info_reqC _ _) ?_))
                      | ((with_reducible refine at_ 82 rfl ?_); (refine step_load rfl _ _ rfl w5.heap.size 0 (reqC y (.slice A5 y.body.length c5)) _ _ (0, 0) _ rfl HB7.out rfl Try.underlying26 rfl (info_reqC _ _) ?_))
                      | (go_at_call 15; refine Rets.use (same13_c x y HX.out HYo.out (.slice A x.body.length c) (.slice A5 y.body.length c5) (HR.out.kept HKx.out (fun k h h' => by have := HS1.out; omega)) (HO5.out.kept HK7.out (fun _ _ h => h)).rd (by omega)) ?_; rw [HD.out]; rintro _ w8 ⟨rfl, hk8⟩))
                    go_ret2
                    rw [HQ.out]
                    exact ⟨HK07.out.trans hk8 (fun _ _ h => h), .slice A4 (Wire.text x).length c4, rfl, ((HR4.out.kept HK57.out (fun _ _ h => h)).kept hk8 (fun _ _ h => h)).mono (fun k h => by have := HK3.out.size; have := HS1.out; omega)⟩
                  · have hd : decide (x = y) = false := decide_eq_false q4
                    have HD := Lib.hid hd
                    have HQ := Lib.hid (show Wire.printF x = ([], 4) from HQ0.out.trans (if_neg (fun h => q4 (Prod.mk.inj h).1.symm)))
                    clear HQ0 he hn q4 hd
                    go_enter Try.func26, Try.ntmps26
                    go_wp2_with (first
                      | (go_at_call 42; refine Rets.use (HDe.out _) ?_; rintro _ _ ⟨rfl, rfl⟩)
                      | ((with_reducible refine at_ 62 rfl ?_); rw [← HW.out]; go_must (refine step_str_mrow2 rfl _ _ _ rfl Try.underlying9 Try.underlying22 Try.underlying5 (Wire.front x) (front_b HX.out) (by rw [← HSf.out]; rfl) ?_); intro cc w3 hm3 hk3; have HM3 := Lib.hid hm3; have HK3 := Lib.hid hk3; have c3 := hk3.cell HC3.out (fun h => h); clear hm3)
                      | ((with_reducible refine at_ 65 rfl ?_); go_must (refine step_append_m rfl _ _ _ rfl Try.underlying22 row_byte w1.heap.size cc (Wire.front x) x.body rfl HM3.out (.slice A x.body.length c) rfl (HR.out.kept HK3.out (fun _ _ h => h)) (by have := front_len HF.out; omega) ?_); intro v4 w4 hr4 hk4; have HR4 := Lib.hid (show Rd w4 _ v4 (Wire.text x).length (Disk.bytes8 (Wire.text x)) from hr4); obtain ⟨A4, c4, hv4, _⟩ := hr4.slice; replace hv4 : v4 = .slice A4 (Wire.text x).length c4 := hv4; subst hv4; have HK4 := Lib.hid hk4; clear hr4)
                      | (go_at_call 14; refine Rets.use (rwholeW_c (.slice A4 (Wire.text x).length c4) (Wire.text x) (HR4.out.lt.mono (fun k h => h.2)) (by omega) (text_b HX.out)) ?_; rw [HTT.out]; rintro v5 w5 ⟨hk5, u5, rfl, hO5⟩; have HO5 := Lib.hid hO5; obtain ⟨A5, c5, rfl, _⟩ := hO5.slice; have HK5 := Lib.hid hk5; clear hO5)
                      | ((with_reducible refine at_ 6 rfl ?_); go_must (refine step_alloc rfl _ rfl _ zq row_req rfl ?_); intro w6 hb6 hk6 hs6)
                      | ((with_reducible refine at_store 26 (.tmp 6) (.tmp 69) rfl ?_); go_must (refine step_store rfl _ _ _ rfl w5.heap.size 0 (reqC y (.slice A5 y.body.length c5)) _ _ rfl rfl hb6 (by simp [zq, reqC]) (info_reqC _ _) (by simp [reqC, Value.oneCell']) ?_); intro w7 hb7 hk7 hs7; rw [put_whole (by rfl)] at hb7; have HK7 := Lib.hid (fresh_set (Keeps.refl _ w5) hk6 hk7); have HB7 := Lib.hid hb7; have HK57 := Lib.hid (HK5.out.trans HK7.out (fun _ _ h => h)); have HKx := Lib.hid (((HK3.out.mono (S' := fun k => k = w1.heap.size) (fun _ _ h => h.elim)).trans HK4.out (fun _ _ h => h)).trans HK57.out (fun _ _ h => h.elim)); have HK07 := Lib.hid (((HK1.out.mono (S' := fun k => w.heap.size ≤ k) (fun _ _ h => h.elim)).trans HKx.out (fun k _ h => by have := HS1.out; omega)).mono (S' := fun _ => False) (fun k hk h => by omega)); have HBx := Lib.hid (HKx.out.heap HB1.out (fun h => by have h2 : w.heap.size = w1.heap.size := h; have := HS1.out; omega)); clear hb7 hb6 hk6 hk7)
                      | ((with_reducible refine at_ 81 rfl ?_); (refine step_load rfl _ _ rfl w.heap.size 0 (reqC x (.slice A x.body.length c)) _ _ (0, 0) _ rfl HBx.out rfl Try.underlying26 rfl (info_reqC _ _) ?_))
                      | ((with_reducible refine at_ 82 rfl ?_); (refine step_load rfl _ _ rfl w5.heap.size 0 (reqC y (.slice A5 y.body.length c5)) _ _ (0, 0) _ rfl HB7.out rfl Try.underlying26 rfl (info_reqC _ _) ?_))
                      | (go_at_call 15; refine Rets.use (same13_c x y HX.out HYo.out (.slice A x.body.length c) (.slice A5 y.body.length c5) (HR.out.kept HKx.out (fun k h h' => by have := HS1.out; omega)) (HO5.out.kept HK7.out (fun _ _ h => h)).rd (by omega)) ?_; rw [HD.out]; rintro _ w8 ⟨rfl, hk8⟩))
                    go_ret2
                    rw [HQ.out]
                    exact ⟨HK07.out.trans hk8 (fun _ _ h => h), .slice none 0 0, rfl, Rd.nil _ _⟩
                · have hnb : (n != ((Wire.text x).length : Int)) = true := by simpa using hn
                  have HQ := Lib.hid (show Wire.printF x = ([], 4) from HQ0.out.trans (if_neg (fun h => hn (Prod.mk.inj (Prod.mk.inj h).2).1)))
                  clear HQ0 he hn
                  go_enter Try.func26, Try.ntmps26
                  go_wp2_with (first
                    | (go_at_call 42; refine Rets.use (HDe.out _) ?_; rintro _ _ ⟨rfl, rfl⟩)
                    | ((with_reducible refine at_ 62 rfl ?_); rw [← HW.out]; go_must (refine step_str_mrow2 rfl _ _ _ rfl Try.underlying9 Try.underlying22 Try.underlying5 (Wire.front x) (front_b HX.out) (by rw [← HSf.out]; rfl) ?_); intro cc w3 hm3 hk3; have HM3 := Lib.hid hm3; have HK3 := Lib.hid hk3; have c3 := hk3.cell HC3.out (fun h => h); clear hm3)
                    | ((with_reducible refine at_ 65 rfl ?_); go_must (refine step_append_m rfl _ _ _ rfl Try.underlying22 row_byte w1.heap.size cc (Wire.front x) x.body rfl HM3.out (.slice A x.body.length c) rfl (HR.out.kept HK3.out (fun _ _ h => h)) (by have := front_len HF.out; omega) ?_); intro v4 w4 hr4 hk4; have HR4 := Lib.hid (show Rd w4 _ v4 (Wire.text x).length (Disk.bytes8 (Wire.text x)) from hr4); obtain ⟨A4, c4, hv4, _⟩ := hr4.slice; replace hv4 : v4 = .slice A4 (Wire.text x).length c4 := hv4; subst hv4; have HK4 := Lib.hid hk4; clear hr4)
                    | (go_at_call 14; refine Rets.use (rwholeW_c (.slice A4 (Wire.text x).length c4) (Wire.text x) (HR4.out.lt.mono (fun k h => h.2)) (by omega) (text_b HX.out)) ?_; rw [HTT.out]; rintro v5 w5 ⟨hk5, u5, rfl, hO5⟩; have HO5 := Lib.hid hO5; obtain ⟨A5, c5, rfl, _⟩ := hO5.slice; have HK5 := Lib.hid hk5; clear hO5)
                    | ((with_reducible refine at_ 6 rfl ?_); go_must (refine step_alloc rfl _ rfl _ zq row_req rfl ?_); intro w6 hb6 hk6 hs6)
                    | ((with_reducible refine at_store 26 (.tmp 6) (.tmp 69) rfl ?_); go_must (refine step_store rfl _ _ _ rfl w5.heap.size 0 (reqC y (.slice A5 y.body.length c5)) _ _ rfl rfl hb6 (by simp [zq, reqC]) (info_reqC _ _) (by simp [reqC, Value.oneCell']) ?_); intro w7 hb7 hk7 hs7; rw [put_whole (by rfl)] at hb7; have HK7 := Lib.hid (fresh_set (Keeps.refl _ w5) hk6 hk7); have HB7 := Lib.hid hb7; have HK57 := Lib.hid (HK5.out.trans HK7.out (fun _ _ h => h)); have HKx := Lib.hid (((HK3.out.mono (S' := fun k => k = w1.heap.size) (fun _ _ h => h.elim)).trans HK4.out (fun _ _ h => h)).trans HK57.out (fun _ _ h => h.elim)); have HK07 := Lib.hid (((HK1.out.mono (S' := fun k => w.heap.size ≤ k) (fun _ _ h => h.elim)).trans HKx.out (fun k _ h => by have := HS1.out; omega)).mono (S' := fun _ => False) (fun k hk h => by omega)); have HBx := Lib.hid (HKx.out.heap HB1.out (fun h => by have h2 : w.heap.size = w1.heap.size := h; have := HS1.out; omega)); clear hb7 hb6 hk6 hk7)
                    | ((with_reducible refine at_ 81 rfl ?_); (refine step_load rfl _ _ rfl w.heap.size 0 (reqC x (.slice A x.body.length c)) _ _ (0, 0) _ rfl HBx.out rfl Try.underlying26 rfl (info_reqC _ _) ?_))
                    | ((with_reducible refine at_ 82 rfl ?_); (refine step_load rfl _ _ rfl w5.heap.size 0 (reqC y (.slice A5 y.body.length c5)) _ _ (0, 0) _ rfl HB7.out rfl Try.underlying26 rfl (info_reqC _ _) ?_))
                    | (go_at_call 15; refine Rets.use (same13_c x y HX.out HYo.out (.slice A x.body.length c) (.slice A5 y.body.length c5) (HR.out.kept HKx.out (fun k h h' => by have := HS1.out; omega)) (HO5.out.kept HK7.out (fun _ _ h => h)).rd (by omega)) ?_; rw [HD.out]; rintro _ w8 ⟨rfl, hk8⟩))
                  go_ret2
                  rw [HQ.out]
                  exact ⟨HK07.out, .slice none 0 0, rfl, Rd.nil _ _⟩
              · have heb : (e != 0) = true := by simpa using he
                have HQ := Lib.hid (show Wire.printF x = ([], 4) from HQ0.out.trans (if_neg (fun h => he (Prod.mk.inj (Prod.mk.inj h).2).2)))
                clear HQ0 he
                go_enter Try.func26, Try.ntmps26
                go_wp2_with (first
                  | (go_at_call 42; refine Rets.use (HDe.out _) ?_; rintro _ _ ⟨rfl, rfl⟩)
                  | ((with_reducible refine at_ 62 rfl ?_); rw [← HW.out]; go_must (refine step_str_mrow2 rfl _ _ _ rfl Try.underlying9 Try.underlying22 Try.underlying5 (Wire.front x) (front_b HX.out) (by rw [← HSf.out]; rfl) ?_); intro cc w3 hm3 hk3; have HM3 := Lib.hid hm3; have HK3 := Lib.hid hk3; have c3 := hk3.cell HC3.out (fun h => h); clear hm3)
                  | ((with_reducible refine at_ 65 rfl ?_); go_must (refine step_append_m rfl _ _ _ rfl Try.underlying22 row_byte w1.heap.size cc (Wire.front x) x.body rfl HM3.out (.slice A x.body.length c) rfl (HR.out.kept HK3.out (fun _ _ h => h)) (by have := front_len HF.out; omega) ?_); intro v4 w4 hr4 hk4; have HR4 := Lib.hid (show Rd w4 _ v4 (Wire.text x).length (Disk.bytes8 (Wire.text x)) from hr4); obtain ⟨A4, c4, hv4, _⟩ := hr4.slice; replace hv4 : v4 = .slice A4 (Wire.text x).length c4 := hv4; subst hv4; have HK4 := Lib.hid hk4; clear hr4)
                  | (go_at_call 14; refine Rets.use (rwholeW_c (.slice A4 (Wire.text x).length c4) (Wire.text x) (HR4.out.lt.mono (fun k h => h.2)) (by omega) (text_b HX.out)) ?_; rw [HTT.out]; rintro v5 w5 ⟨hk5, u5, rfl, hO5⟩; have HO5 := Lib.hid hO5; obtain ⟨A5, c5, rfl, _⟩ := hO5.slice; have HK5 := Lib.hid hk5; clear hO5)
                  | ((with_reducible refine at_ 6 rfl ?_); go_must (refine step_alloc rfl _ rfl _ zq row_req rfl ?_); intro w6 hb6 hk6 hs6)
                  | ((with_reducible refine at_store 26 (.tmp 6) (.tmp 69) rfl ?_); go_must (refine step_store rfl _ _ _ rfl w5.heap.size 0 (reqC y (.slice A5 y.body.length c5)) _ _ rfl rfl hb6 (by simp [zq, reqC]) (info_reqC _ _) (by simp [reqC, Value.oneCell']) ?_); intro w7 hb7 hk7 hs7; rw [put_whole (by rfl)] at hb7; have HK7 := Lib.hid (fresh_set (Keeps.refl _ w5) hk6 hk7); have HB7 := Lib.hid hb7; have HK57 := Lib.hid (HK5.out.trans HK7.out (fun _ _ h => h)); have HKx := Lib.hid (((HK3.out.mono (S' := fun k => k = w1.heap.size) (fun _ _ h => h.elim)).trans HK4.out (fun _ _ h => h)).trans HK57.out (fun _ _ h => h.elim)); have HK07 := Lib.hid (((HK1.out.mono (S' := fun k => w.heap.size ≤ k) (fun _ _ h => h.elim)).trans HKx.out (fun k _ h => by have := HS1.out; omega)).mono (S' := fun _ => False) (fun k hk h => by omega)); have HBx := Lib.hid (HKx.out.heap HB1.out (fun h => by have h2 : w.heap.size = w1.heap.size := h; have := HS1.out; omega)); clear hb7 hb6 hk6 hk7)
                  | ((with_reducible refine at_ 81 rfl ?_); (refine step_load rfl _ _ rfl w.heap.size 0 (reqC x (.slice A x.body.length c)) _ _ (0, 0) _ rfl HBx.out rfl Try.underlying26 rfl (info_reqC _ _) ?_))
                  | ((with_reducible refine at_ 82 rfl ?_); (refine step_load rfl _ _ rfl w5.heap.size 0 (reqC y (.slice A5 y.body.length c5)) _ _ (0, 0) _ rfl HB7.out rfl Try.underlying26 rfl (info_reqC _ _) ?_))
                  | (go_at_call 15; refine Rets.use (same13_c x y HX.out HYo.out (.slice A x.body.length c) (.slice A5 y.body.length c5) (HR.out.kept HKx.out (fun k h h' => by have := HS1.out; omega)) (HO5.out.kept HK7.out (fun _ _ h => h)).rd (by omega)) ?_; rw [HD.out]; rintro _ w8 ⟨rfl, hk8⟩))
                go_ret2
                rw [HQ.out]
                exact ⟨HK07.out, .slice none 0 0, rfl, Rd.nil _ _⟩
            · have hbl : 0 < x.body.length := by cases h : x.body with | nil => exact (hb h).elim | cons => simp
              obtain ⟨sd, hsd⟩ : ∃ s, s = str (decF (x.body.length : Int)) := ⟨_, rfl⟩
              obtain ⟨s8, hs8'⟩ : ∃ s, s = str (Wire.withA x ++ Wire.kL) := ⟨_, rfl⟩
              obtain ⟨s9, hs9'⟩ : ∃ s, s = str ((Wire.withA x ++ Wire.kL) ++ decF (x.body.length : Int)) := ⟨_, rfl⟩
              obtain ⟨s5, hs5'⟩ : ∃ s, s = str (Wire.withL x) := ⟨_, rfl⟩
              have hdl := dec_len (x.body.length : Int)
              have b1 : ∀ w', (Op.stringOp .add s4 ⟨#[67, 111, 110, 116, 101, 110, 116, 45, 76, 101, 110, 103, 116, 104, 58, 32]⟩).run Try.prog w' = .ok (.string s8) w' := fun w' => by rw [hs8', hs4']; exact add_str (b := Wire.kL) (by simp only [Wire.kL, List.length_cons, List.length_nil]; omega) w'
              have b2 : ∀ w', (Op.stringOp .add s8 sd).run Try.prog w' = .ok (.string s9) w' := fun w' => by rw [hs8', hs9', hsd]; exact add_str (by simp only [Wire.kL, List.length_append, List.length_cons, List.length_nil]; omega) w'
              have b3 : ∀ w', (Op.stringOp .add s9 ⟨#[13, 10]⟩).run Try.prog w' = .ok (.string s5) w' := fun w' => by rw [hs9', hs5']; have := add_str (a := (Wire.withA x ++ Wire.kL) ++ decF (x.body.length : Int)) (b := Wire.crlf) (by simp only [Wire.kL, Wire.crlf, List.length_append, List.length_cons, List.length_nil]; omega) w'; rw [show ((Wire.withA x ++ Wire.kL) ++ decF (x.body.length : Int)) ++ Wire.crlf = Wire.withL x by unfold Wire.withL; rw [if_neg hb]; simp only [List.append_assoc]] at this; exact this
              have hll : (Wire.withL x).length ≤ 1800 := by unfold Wire.withL Wire.kL Wire.crlf; rw [if_neg hb]; simp only [List.length_append, List.length_cons, List.length_nil]; omega
              have ae : ∀ w', (Op.stringOp .add s5 ⟨#[13, 10]⟩).run Try.prog w' = .ok (.string sf) w' := fun w' => by rw [hs5', hsf]; exact add_str (b := Wire.crlf) (by simp only [Wire.crlf, List.length_cons, List.length_nil]; omega) w'
              have HSd := Lib.hid hsd
              have HDe := Lib.hid (fun w' => show Calls Try.prog 42 #[.int .i64 (x.body.length : Int)] w' (Rets (Only (.string sd) w')) by rw [hsd]; exact rdec64_c (x.body.length : Int) (by omega) (by omega) w')
              clear hw1 hb1 hr hx hf hsm hst hsk hs1' hs2' hs3' hs4' hsf hsd hs8' hs9' hs5' ht hb hk1 hdl
              obtain ⟨t, htt⟩ : ∃ t, Wire.whole (Wire.text x) = t := ⟨_, rfl⟩
              have HTT := Lib.hid (show Wire.docWhole (Wire.text x) = t by rw [← Wire.whole_doc]; exact htt)
              have htl : (Wire.text x).length ≤ 4100 := by have := front_len HF.out; unfold Wire.text; rw [List.length_append]; omega
              have hgd := whole_good (Wire.text x) (text_b HX.out)
              rw [htt] at hgd
              have HYo := Lib.hid hgd.1
              obtain ⟨y, n, e⟩ := t
              rw [htt] at HQ0
              clear htt hgd
              by_cases he : e = 0
              · have heb : (e != 0) = false := by rw [he]; rfl
                by_cases hn : n = ((Wire.text x).length : Int)
                · have hnb : (n != ((Wire.text x).length : Int)) = false := by rw [hn]; simp
                  by_cases q4 : x = y
                  · have hd : decide (x = y) = true := decide_eq_true q4
                    have HD := Lib.hid hd
                    have HQ := Lib.hid (show Wire.printF x = (Wire.text x, 0) from HQ0.out.trans (if_pos (by rw [Prod.mk.injEq, Prod.mk.injEq]; exact ⟨q4.symm, hn, he⟩)))
                    clear HQ0 he hn q4 hd
                    go_enter Try.func26, Try.ntmps26
                    go_wp2_with (first
                      | (go_at_call 42; refine Rets.use (HDe.out _) ?_; rintro _ _ ⟨rfl, rfl⟩)
                      | ((with_reducible refine at_ 62 rfl ?_); rw [← HW.out]; go_must (refine step_str_mrow2 rfl _ _ _ rfl Try.underlying9 Try.underlying22 Try.underlying5 (Wire.front x) (front_b HX.out) (by rw [← HSf.out]; rfl) ?_); intro cc w3 hm3 hk3; have HM3 := Lib.hid hm3; have HK3 := Lib.hid hk3; have c3 := hk3.cell HC3.out (fun h => h); clear hm3)
                      | ((with_reducible refine at_ 65 rfl ?_); go_must (refine step_append_m rfl _ _ _ rfl Try.underlying22 row_byte w1.heap.size cc (Wire.front x) x.body rfl HM3.out (.slice A x.body.length c) rfl (HR.out.kept HK3.out (fun _ _ h => h)) (by have := front_len HF.out; omega) ?_); intro v4 w4 hr4 hk4; have HR4 := Lib.hid (show Rd w4 _ v4 (Wire.text x).length (Disk.bytes8 (Wire.text x)) from hr4); obtain ⟨A4, c4, hv4, _⟩ := hr4.slice; replace hv4 : v4 = .slice A4 (Wire.text x).length c4 := hv4; subst hv4; have HK4 := Lib.hid hk4; clear hr4)
                      | (go_at_call 14; refine Rets.use (rwholeW_c (.slice A4 (Wire.text x).length c4) (Wire.text x) (HR4.out.lt.mono (fun k h => h.2)) (by omega) (text_b HX.out)) ?_; rw [HTT.out]; rintro v5 w5 ⟨hk5, u5, rfl, hO5⟩; have HO5 := Lib.hid hO5; obtain ⟨A5, c5, rfl, _⟩ := hO5.slice; have HK5 := Lib.hid hk5; clear hO5)
                      | ((with_reducible refine at_ 6 rfl ?_); go_must (refine step_alloc rfl _ rfl _ zq row_req rfl ?_); intro w6 hb6 hk6 hs6)
                      | ((with_reducible refine at_store 26 (.tmp 6) (.tmp 69) rfl ?_); go_must (refine step_store rfl _ _ _ rfl w5.heap.size 0 (reqC y (.slice A5 y.body.length c5)) _ _ rfl rfl hb6 (by simp [zq, reqC]) (info_reqC _ _) (by simp [reqC, Value.oneCell']) ?_); intro w7 hb7 hk7 hs7; rw [put_whole (by rfl)] at hb7; have HK7 := Lib.hid (fresh_set (Keeps.refl _ w5) hk6 hk7); have HB7 := Lib.hid hb7; have HK57 := Lib.hid (HK5.out.trans HK7.out (fun _ _ h => h)); have HKx := Lib.hid (((HK3.out.mono (S' := fun k => k = w1.heap.size) (fun _ _ h => h.elim)).trans HK4.out (fun _ _ h => h)).trans HK57.out (fun _ _ h => h.elim)); have HK07 := Lib.hid (((HK1.out.mono (S' := fun k => w.heap.size ≤ k) (fun _ _ h => h.elim)).trans HKx.out (fun k _ h => by have := HS1.out; omega)).mono (S' := fun _ => False) (fun k hk h => by omega)); have HBx := Lib.hid (HKx.out.heap HB1.out (fun h => by have h2 : w.heap.size = w1.heap.size := h; have := HS1.out; omega)); clear hb7 hb6 hk6 hk7)
                      | ((with_reducible refine at_ 81 rfl ?_); (refine step_load rfl _ _ rfl w.heap.size 0 (reqC x (.slice A x.body.length c)) _ _ (0, 0) _ rfl HBx.out rfl Try.underlying26 rfl (info_reqC _ _) ?_))
                      | ((with_reducible refine at_ 82 rfl ?_); (refine step_load rfl _ _ rfl w5.heap.size 0 (reqC y (.slice A5 y.body.length c5)) _ _ (0, 0) _ rfl HB7.out rfl Try.underlying26 rfl (info_reqC _ _) ?_))
                      | (go_at_call 15; refine Rets.use (same13_c x y HX.out HYo.out (.slice A x.body.length c) (.slice A5 y.body.length c5) (HR.out.kept HKx.out (fun k h h' => by have := HS1.out; omega)) (HO5.out.kept HK7.out (fun _ _ h => h)).rd (by omega)) ?_; rw [HD.out]; rintro _ w8 ⟨rfl, hk8⟩))
                    go_ret2
                    rw [HQ.out]
                    exact ⟨HK07.out.trans hk8 (fun _ _ h => h), .slice A4 (Wire.text x).length c4, rfl, ((HR4.out.kept HK57.out (fun _ _ h => h)).kept hk8 (fun _ _ h => h)).mono (fun k h => by have := HK3.out.size; have := HS1.out; omega)⟩
                  · have hd : decide (x = y) = false := decide_eq_false q4
                    have HD := Lib.hid hd
                    have HQ := Lib.hid (show Wire.printF x = ([], 4) from HQ0.out.trans (if_neg (fun h => q4 (Prod.mk.inj h).1.symm)))
                    clear HQ0 he hn q4 hd
                    go_enter Try.func26, Try.ntmps26
                    go_wp2_with (first
                      | (go_at_call 42; refine Rets.use (HDe.out _) ?_; rintro _ _ ⟨rfl, rfl⟩)
                      | ((with_reducible refine at_ 62 rfl ?_); rw [← HW.out]; go_must (refine step_str_mrow2 rfl _ _ _ rfl Try.underlying9 Try.underlying22 Try.underlying5 (Wire.front x) (front_b HX.out) (by rw [← HSf.out]; rfl) ?_); intro cc w3 hm3 hk3; have HM3 := Lib.hid hm3; have HK3 := Lib.hid hk3; have c3 := hk3.cell HC3.out (fun h => h); clear hm3)
                      | ((with_reducible refine at_ 65 rfl ?_); go_must (refine step_append_m rfl _ _ _ rfl Try.underlying22 row_byte w1.heap.size cc (Wire.front x) x.body rfl HM3.out (.slice A x.body.length c) rfl (HR.out.kept HK3.out (fun _ _ h => h)) (by have := front_len HF.out; omega) ?_); intro v4 w4 hr4 hk4; have HR4 := Lib.hid (show Rd w4 _ v4 (Wire.text x).length (Disk.bytes8 (Wire.text x)) from hr4); obtain ⟨A4, c4, hv4, _⟩ := hr4.slice; replace hv4 : v4 = .slice A4 (Wire.text x).length c4 := hv4; subst hv4; have HK4 := Lib.hid hk4; clear hr4)
                      | (go_at_call 14; refine Rets.use (rwholeW_c (.slice A4 (Wire.text x).length c4) (Wire.text x) (HR4.out.lt.mono (fun k h => h.2)) (by omega) (text_b HX.out)) ?_; rw [HTT.out]; rintro v5 w5 ⟨hk5, u5, rfl, hO5⟩; have HO5 := Lib.hid hO5; obtain ⟨A5, c5, rfl, _⟩ := hO5.slice; have HK5 := Lib.hid hk5; clear hO5)
                      | ((with_reducible refine at_ 6 rfl ?_); go_must (refine step_alloc rfl _ rfl _ zq row_req rfl ?_); intro w6 hb6 hk6 hs6)
                      | ((with_reducible refine at_store 26 (.tmp 6) (.tmp 69) rfl ?_); go_must (refine step_store rfl _ _ _ rfl w5.heap.size 0 (reqC y (.slice A5 y.body.length c5)) _ _ rfl rfl hb6 (by simp [zq, reqC]) (info_reqC _ _) (by simp [reqC, Value.oneCell']) ?_); intro w7 hb7 hk7 hs7; rw [put_whole (by rfl)] at hb7; have HK7 := Lib.hid (fresh_set (Keeps.refl _ w5) hk6 hk7); have HB7 := Lib.hid hb7; have HK57 := Lib.hid (HK5.out.trans HK7.out (fun _ _ h => h)); have HKx := Lib.hid (((HK3.out.mono (S' := fun k => k = w1.heap.size) (fun _ _ h => h.elim)).trans HK4.out (fun _ _ h => h)).trans HK57.out (fun _ _ h => h.elim)); have HK07 := Lib.hid (((HK1.out.mono (S' := fun k => w.heap.size ≤ k) (fun _ _ h => h.elim)).trans HKx.out (fun k _ h => by have := HS1.out; omega)).mono (S' := fun _ => False) (fun k hk h => by omega)); have HBx := Lib.hid (HKx.out.heap HB1.out (fun h => by have h2 : w.heap.size = w1.heap.size := h; have := HS1.out; omega)); clear hb7 hb6 hk6 hk7)
                      | ((with_reducible refine at_ 81 rfl ?_); (refine step_load rfl _ _ rfl w.heap.size 0 (reqC x (.slice A x.body.length c)) _ _ (0, 0) _ rfl HBx.out rfl Try.underlying26 rfl (info_reqC _ _) ?_))
                      | ((with_reducible refine at_ 82 rfl ?_); (refine step_load rfl _ _ rfl w5.heap.size 0 (reqC y (.slice A5 y.body.length c5)) _ _ (0, 0) _ rfl HB7.out rfl Try.underlying26 rfl (info_reqC _ _) ?_))
                      | (go_at_call 15; refine Rets.use (same13_c x y HX.out HYo.out (.slice A x.body.length c) (.slice A5 y.body.length c5) (HR.out.kept HKx.out (fun k h h' => by have := HS1.out; omega)) (HO5.out.kept HK7.out (fun _ _ h => h)).rd (by omega)) ?_; rw [HD.out]; rintro _ w8 ⟨rfl, hk8⟩))
                    go_ret2
                    rw [HQ.out]
                    exact ⟨HK07.out.trans hk8 (fun _ _ h => h), .slice none 0 0, rfl, Rd.nil _ _⟩
                · have hnb : (n != ((Wire.text x).length : Int)) = true := by simpa using hn
                  have HQ := Lib.hid (show Wire.printF x = ([], 4) from HQ0.out.trans (if_neg (fun h => hn (Prod.mk.inj (Prod.mk.inj h).2).1)))
                  clear HQ0 he hn
                  go_enter Try.func26, Try.ntmps26
                  go_wp2_with (first
                    | (go_at_call 42; refine Rets.use (HDe.out _) ?_; rintro _ _ ⟨rfl, rfl⟩)
                    | ((with_reducible refine at_ 62 rfl ?_); rw [← HW.out]; go_must (refine step_str_mrow2 rfl _ _ _ rfl Try.underlying9 Try.underlying22 Try.underlying5 (Wire.front x) (front_b HX.out) (by rw [← HSf.out]; rfl) ?_); intro cc w3 hm3 hk3; have HM3 := Lib.hid hm3; have HK3 := Lib.hid hk3; have c3 := hk3.cell HC3.out (fun h => h); clear hm3)
                    | ((with_reducible refine at_ 65 rfl ?_); go_must (refine step_append_m rfl _ _ _ rfl Try.underlying22 row_byte w1.heap.size cc (Wire.front x) x.body rfl HM3.out (.slice A x.body.length c) rfl (HR.out.kept HK3.out (fun _ _ h => h)) (by have := front_len HF.out; omega) ?_); intro v4 w4 hr4 hk4; have HR4 := Lib.hid (show Rd w4 _ v4 (Wire.text x).length (Disk.bytes8 (Wire.text x)) from hr4); obtain ⟨A4, c4, hv4, _⟩ := hr4.slice; replace hv4 : v4 = .slice A4 (Wire.text x).length c4 := hv4; subst hv4; have HK4 := Lib.hid hk4; clear hr4)
                    | (go_at_call 14; refine Rets.use (rwholeW_c (.slice A4 (Wire.text x).length c4) (Wire.text x) (HR4.out.lt.mono (fun k h => h.2)) (by omega) (text_b HX.out)) ?_; rw [HTT.out]; rintro v5 w5 ⟨hk5, u5, rfl, hO5⟩; have HO5 := Lib.hid hO5; obtain ⟨A5, c5, rfl, _⟩ := hO5.slice; have HK5 := Lib.hid hk5; clear hO5)
                    | ((with_reducible refine at_ 6 rfl ?_); go_must (refine step_alloc rfl _ rfl _ zq row_req rfl ?_); intro w6 hb6 hk6 hs6)
                    | ((with_reducible refine at_store 26 (.tmp 6) (.tmp 69) rfl ?_); go_must (refine step_store rfl _ _ _ rfl w5.heap.size 0 (reqC y (.slice A5 y.body.length c5)) _ _ rfl rfl hb6 (by simp [zq, reqC]) (info_reqC _ _) (by simp [reqC, Value.oneCell']) ?_); intro w7 hb7 hk7 hs7; rw [put_whole (by rfl)] at hb7; have HK7 := Lib.hid (fresh_set (Keeps.refl _ w5) hk6 hk7); have HB7 := Lib.hid hb7; have HK57 := Lib.hid (HK5.out.trans HK7.out (fun _ _ h => h)); have HKx := Lib.hid (((HK3.out.mono (S' := fun k => k = w1.heap.size) (fun _ _ h => h.elim)).trans HK4.out (fun _ _ h => h)).trans HK57.out (fun _ _ h => h.elim)); have HK07 := Lib.hid (((HK1.out.mono (S' := fun k => w.heap.size ≤ k) (fun _ _ h => h.elim)).trans HKx.out (fun k _ h => by have := HS1.out; omega)).mono (S' := fun _ => False) (fun k hk h => by omega)); have HBx := Lib.hid (HKx.out.heap HB1.out (fun h => by have h2 : w.heap.size = w1.heap.size := h; have := HS1.out; omega)); clear hb7 hb6 hk6 hk7)
                    | ((with_reducible refine at_ 81 rfl ?_); (refine step_load rfl _ _ rfl w.heap.size 0 (reqC x (.slice A x.body.length c)) _ _ (0, 0) _ rfl HBx.out rfl Try.underlying26 rfl (info_reqC _ _) ?_))
                    | ((with_reducible refine at_ 82 rfl ?_); (refine step_load rfl _ _ rfl w5.heap.size 0 (reqC y (.slice A5 y.body.length c5)) _ _ (0, 0) _ rfl HB7.out rfl Try.underlying26 rfl (info_reqC _ _) ?_))
                    | (go_at_call 15; refine Rets.use (same13_c x y HX.out HYo.out (.slice A x.body.length c) (.slice A5 y.body.length c5) (HR.out.kept HKx.out (fun k h h' => by have := HS1.out; omega)) (HO5.out.kept HK7.out (fun _ _ h => h)).rd (by omega)) ?_; rw [HD.out]; rintro _ w8 ⟨rfl, hk8⟩))
                  go_ret2
                  rw [HQ.out]
                  exact ⟨HK07.out, .slice none 0 0, rfl, Rd.nil _ _⟩
              · have heb : (e != 0) = true := by simpa using he
                have HQ := Lib.hid (show Wire.printF x = ([], 4) from HQ0.out.trans (if_neg (fun h => he (Prod.mk.inj (Prod.mk.inj h).2).2)))
                clear HQ0 he
                go_enter Try.func26, Try.ntmps26
                go_wp2_with (first
                  | (go_at_call 42; refine Rets.use (HDe.out _) ?_; rintro _ _ ⟨rfl, rfl⟩)
                  | ((with_reducible refine at_ 62 rfl ?_); rw [← HW.out]; go_must (refine step_str_mrow2 rfl _ _ _ rfl Try.underlying9 Try.underlying22 Try.underlying5 (Wire.front x) (front_b HX.out) (by rw [← HSf.out]; rfl) ?_); intro cc w3 hm3 hk3; have HM3 := Lib.hid hm3; have HK3 := Lib.hid hk3; have c3 := hk3.cell HC3.out (fun h => h); clear hm3)
                  | ((with_reducible refine at_ 65 rfl ?_); go_must (refine step_append_m rfl _ _ _ rfl Try.underlying22 row_byte w1.heap.size cc (Wire.front x) x.body rfl HM3.out (.slice A x.body.length c) rfl (HR.out.kept HK3.out (fun _ _ h => h)) (by have := front_len HF.out; omega) ?_); intro v4 w4 hr4 hk4; have HR4 := Lib.hid (show Rd w4 _ v4 (Wire.text x).length (Disk.bytes8 (Wire.text x)) from hr4); obtain ⟨A4, c4, hv4, _⟩ := hr4.slice; replace hv4 : v4 = .slice A4 (Wire.text x).length c4 := hv4; subst hv4; have HK4 := Lib.hid hk4; clear hr4)
                  | (go_at_call 14; refine Rets.use (rwholeW_c (.slice A4 (Wire.text x).length c4) (Wire.text x) (HR4.out.lt.mono (fun k h => h.2)) (by omega) (text_b HX.out)) ?_; rw [HTT.out]; rintro v5 w5 ⟨hk5, u5, rfl, hO5⟩; have HO5 := Lib.hid hO5; obtain ⟨A5, c5, rfl, _⟩ := hO5.slice; have HK5 := Lib.hid hk5; clear hO5)
                  | ((with_reducible refine at_ 6 rfl ?_); go_must (refine step_alloc rfl _ rfl _ zq row_req rfl ?_); intro w6 hb6 hk6 hs6)
                  | ((with_reducible refine at_store 26 (.tmp 6) (.tmp 69) rfl ?_); go_must (refine step_store rfl _ _ _ rfl w5.heap.size 0 (reqC y (.slice A5 y.body.length c5)) _ _ rfl rfl hb6 (by simp [zq, reqC]) (info_reqC _ _) (by simp [reqC, Value.oneCell']) ?_); intro w7 hb7 hk7 hs7; rw [put_whole (by rfl)] at hb7; have HK7 := Lib.hid (fresh_set (Keeps.refl _ w5) hk6 hk7); have HB7 := Lib.hid hb7; have HK57 := Lib.hid (HK5.out.trans HK7.out (fun _ _ h => h)); have HKx := Lib.hid (((HK3.out.mono (S' := fun k => k = w1.heap.size) (fun _ _ h => h.elim)).trans HK4.out (fun _ _ h => h)).trans HK57.out (fun _ _ h => h.elim)); have HK07 := Lib.hid (((HK1.out.mono (S' := fun k => w.heap.size ≤ k) (fun _ _ h => h.elim)).trans HKx.out (fun k _ h => by have := HS1.out; omega)).mono (S' := fun _ => False) (fun k hk h => by omega)); have HBx := Lib.hid (HKx.out.heap HB1.out (fun h => by have h2 : w.heap.size = w1.heap.size := h; have := HS1.out; omega)); clear hb7 hb6 hk6 hk7)
                  | ((with_reducible refine at_ 81 rfl ?_); (refine step_load rfl _ _ rfl w.heap.size 0 (reqC x (.slice A x.body.length c)) _ _ (0, 0) _ rfl HBx.out rfl Try.underlying26 rfl (info_reqC _ _) ?_))
                  | ((with_reducible refine at_ 82 rfl ?_); (refine step_load rfl _ _ rfl w5.heap.size 0 (reqC y (.slice A5 y.body.length c5)) _ _ (0, 0) _ rfl HB7.out rfl Try.underlying26 rfl (info_reqC _ _) ?_))
                  | (go_at_call 15; refine Rets.use (same13_c x y HX.out HYo.out (.slice A x.body.length c) (.slice A5 y.body.length c5) (HR.out.kept HKx.out (fun k h h' => by have := HS1.out; omega)) (HO5.out.kept HK7.out (fun _ _ h => h)).rd (by omega)) ?_; rw [HD.out]; rintro _ w8 ⟨rfl, hk8⟩))
                go_ret2
                rw [HQ.out]
                exact ⟨HK07.out, .slice none 0 0, rfl, Rd.nil _ _⟩
          · have hE : 0 < x.token.length := by cases h : x.token with | nil => exact (ht h).elim | cons => simp
            obtain ⟨s4, hs4'⟩ : ∃ s, s = str (Wire.withA x) := ⟨_, rfl⟩
            obtain ⟨s6, hs6'⟩ : ∃ s, s = str (Wire.headT x ++ Wire.kA) := ⟨_, rfl⟩
            obtain ⟨s7, hs7'⟩ : ∃ s, s = str ((Wire.headT x ++ Wire.kA) ++ x.token) := ⟨_, rfl⟩
            have hal : (Wire.withA x).length ≤ 1700 := by unfold Wire.withA Wire.kA Wire.crlf; rw [if_neg ht]; simp only [List.length_append, List.length_cons, List.length_nil]; omega
            have a4 : ∀ w', (Op.stringOp .add s3 ⟨#[65, 117, 116, 104, 111, 114, 105, 122, 97, 116, 105, 111, 110, 58, 32, 66, 101, 97, 114, 101, 114, 32]⟩).run Try.prog w' = .ok (.string s6) w' := fun w' => by rw [hs3', hs6']; exact add_str (b := Wire.kA) (by simp only [Wire.kA, List.length_cons, List.length_nil]; omega) w'
            have a5 : ∀ w', (Op.stringOp .add s6 sk).run Try.prog w' = .ok (.string s7) w' := fun w' => by rw [hs6', hs7', hsk]; exact add_str (by simp only [Wire.kA, List.length_append, List.length_cons, List.length_nil]; omega) w'
            have a6 : ∀ w', (Op.stringOp .add s7 ⟨#[13, 10]⟩).run Try.prog w' = .ok (.string s4) w' := fun w' => by rw [hs7', hs4']; have := add_str (a := (Wire.headT x ++ Wire.kA) ++ x.token) (b := Wire.crlf) (by simp only [Wire.kA, Wire.crlf, List.length_append, List.length_cons, List.length_nil]; omega) w'; rw [show ((Wire.headT x ++ Wire.kA) ++ x.token) ++ Wire.crlf = Wire.withA x by unfold Wire.withA; rw [if_neg ht]; simp only [List.append_assoc]] at this; exact this
            clear hs6' hs7'
            obtain ⟨sf, hsf⟩ : ∃ s, s = str (Wire.front x) := ⟨_, rfl⟩
            have HSf := Lib.hid hsf
            have HK1 := Lib.hid hk1
            have HS1 := Lib.hid hs1
            clear hs1
            by_cases hb : x.body = []
            · have e0 : x.body.length ≤ 0 := by rw [hb]; exact Nat.le_refl _
              have ae : ∀ w', (Op.stringOp .add s4 ⟨#[13, 10]⟩).run Try.prog w' = .ok (.string sf) w' := fun w' => by rw [hs4', hsf]; unfold Wire.front Wire.withL; rw [if_pos hb]; exact add_str (b := Wire.crlf) (by simp only [Wire.crlf, List.length_cons, List.length_nil]; omega) w'
              clear hw1 hb1 hr hx hf hsm hst hsk hs1' hs2' hs3' hs4' hsf ht hb hk1
              obtain ⟨t, htt⟩ : ∃ t, Wire.whole (Wire.text x) = t := ⟨_, rfl⟩
              have HTT := Lib.hid (show Wire.docWhole (Wire.text x) = t by rw [← Wire.whole_doc]; exact htt)
              have htl : (Wire.text x).length ≤ 4100 := by have := front_len HF.out; unfold Wire.text; rw [List.length_append]; omega
              have hgd := whole_good (Wire.text x) (text_b HX.out)
              rw [htt] at hgd
              have HYo := Lib.hid hgd.1
              obtain ⟨y, n, e⟩ := t
              rw [htt] at HQ0
              clear htt hgd
              by_cases he : e = 0
              · have heb : (e != 0) = false := by rw [he]; rfl
                by_cases hn : n = ((Wire.text x).length : Int)
                · have hnb : (n != ((Wire.text x).length : Int)) = false := by rw [hn]; simp
                  by_cases q4 : x = y
                  · have hd : decide (x = y) = true := decide_eq_true q4
                    have HD := Lib.hid hd
                    have HQ := Lib.hid (show Wire.printF x = (Wire.text x, 0) from HQ0.out.trans (if_pos (by rw [Prod.mk.injEq, Prod.mk.injEq]; exact ⟨q4.symm, hn, he⟩)))
                    clear HQ0 he hn q4 hd
                    go_enter Try.func26, Try.ntmps26
                    go_wp2_with (first
                      | (go_at_call 42; refine Rets.use (HDe.out _) ?_; rintro _ _ ⟨rfl, rfl⟩)
                      | ((with_reducible refine at_ 62 rfl ?_); rw [← HW.out]; go_must (refine step_str_mrow2 rfl _ _ _ rfl Try.underlying9 Try.underlying22 Try.underlying5 (Wire.front x) (front_b HX.out) (by rw [← HSf.out]; rfl) ?_); intro cc w3 hm3 hk3; have HM3 := Lib.hid hm3; have HK3 := Lib.hid hk3; have c3 := hk3.cell HC3.out (fun h => h); clear hm3)
                      | ((with_reducible refine at_ 65 rfl ?_); go_must (refine step_append_m rfl _ _ _ rfl Try.underlying22 row_byte w1.heap.size cc (Wire.front x) x.body rfl HM3.out (.slice A x.body.length c) rfl (HR.out.kept HK3.out (fun _ _ h => h)) (by have := front_len HF.out; omega) ?_); intro v4 w4 hr4 hk4; have HR4 := Lib.hid (show Rd w4 _ v4 (Wire.text x).length (Disk.bytes8 (Wire.text x)) from hr4); obtain ⟨A4, c4, hv4, _⟩ := hr4.slice; replace hv4 : v4 = .slice A4 (Wire.text x).length c4 := hv4; subst hv4; have HK4 := Lib.hid hk4; clear hr4)
                      | (go_at_call 14; refine Rets.use (rwholeW_c (.slice A4 (Wire.text x).length c4) (Wire.text x) (HR4.out.lt.mono (fun k h => h.2)) (by omega) (text_b HX.out)) ?_; rw [HTT.out]; rintro v5 w5 ⟨hk5, u5, rfl, hO5⟩; have HO5 := Lib.hid hO5; obtain ⟨A5, c5, rfl, _⟩ := hO5.slice; have HK5 := Lib.hid hk5; clear hO5)
                      | ((with_reducible refine at_ 6 rfl ?_); go_must (refine step_alloc rfl _ rfl _ zq row_req rfl ?_); intro w6 hb6 hk6 hs6)
                      | ((with_reducible refine at_store 26 (.tmp 6) (.tmp 69) rfl ?_); go_must (refine step_store rfl _ _ _ rfl w5.heap.size 0 (reqC y (.slice A5 y.body.length c5)) _ _ rfl rfl hb6 (by simp [zq, reqC]) (info_reqC _ _) (by simp [reqC, Value.oneCell']) ?_); intro w7 hb7 hk7 hs7; rw [put_whole (by rfl)] at hb7; have HK7 := Lib.hid (fresh_set (Keeps.refl _ w5) hk6 hk7); have HB7 := Lib.hid hb7; have HK57 := Lib.hid (HK5.out.trans HK7.out (fun _ _ h => h)); have HKx := Lib.hid (((HK3.out.mono (S' := fun k => k = w1.heap.size) (fun _ _ h => h.elim)).trans HK4.out (fun _ _ h => h)).trans HK57.out (fun _ _ h => h.elim)); have HK07 := Lib.hid (((HK1.out.mono (S' := fun k => w.heap.size ≤ k) (fun _ _ h => h.elim)).trans HKx.out (fun k _ h => by have := HS1.out; omega)).mono (S' := fun _ => False) (fun k hk h => by omega)); have HBx := Lib.hid (HKx.out.heap HB1.out (fun h => by have h2 : w.heap.size = w1.heap.size := h; have := HS1.out; omega)); clear hb7 hb6 hk6 hk7)
                      | ((with_reducible refine at_ 81 rfl ?_); (refine step_load rfl _ _ rfl w.heap.size 0 (reqC x (.slice A x.body.length c)) _ _ (0, 0) _ rfl HBx.out rfl Try.underlying26 rfl (info_reqC _ _) ?_))
                      | ((with_reducible refine at_ 82 rfl ?_); (refine step_load rfl _ _ rfl w5.heap.size 0 (reqC y (.slice A5 y.body.length c5)) _ _ (0, 0) _ rfl HB7.out rfl Try.underlying26 rfl (info_reqC _ _) ?_))
                      | (go_at_call 15; refine Rets.use (same13_c x y HX.out HYo.out (.slice A x.body.length c) (.slice A5 y.body.length c5) (HR.out.kept HKx.out (fun k h h' => by have := HS1.out; omega)) (HO5.out.kept HK7.out (fun _ _ h => h)).rd (by omega)) ?_; rw [HD.out]; rintro _ w8 ⟨rfl, hk8⟩))
                    go_ret2
                    rw [HQ.out]
                    exact ⟨HK07.out.trans hk8 (fun _ _ h => h), .slice A4 (Wire.text x).length c4, rfl, ((HR4.out.kept HK57.out (fun _ _ h => h)).kept hk8 (fun _ _ h => h)).mono (fun k h => by have := HK3.out.size; have := HS1.out; omega)⟩
                  · have hd : decide (x = y) = false := decide_eq_false q4
                    have HD := Lib.hid hd
                    have HQ := Lib.hid (show Wire.printF x = ([], 4) from HQ0.out.trans (if_neg (fun h => q4 (Prod.mk.inj h).1.symm)))
                    clear HQ0 he hn q4 hd
                    go_enter Try.func26, Try.ntmps26
                    go_wp2_with (first
                      | (go_at_call 42; refine Rets.use (HDe.out _) ?_; rintro _ _ ⟨rfl, rfl⟩)
                      | ((with_reducible refine at_ 62 rfl ?_); rw [← HW.out]; go_must (refine step_str_mrow2 rfl _ _ _ rfl Try.underlying9 Try.underlying22 Try.underlying5 (Wire.front x) (front_b HX.out) (by rw [← HSf.out]; rfl) ?_); intro cc w3 hm3 hk3; have HM3 := Lib.hid hm3; have HK3 := Lib.hid hk3; have c3 := hk3.cell HC3.out (fun h => h); clear hm3)
                      | ((with_reducible refine at_ 65 rfl ?_); go_must (refine step_append_m rfl _ _ _ rfl Try.underlying22 row_byte w1.heap.size cc (Wire.front x) x.body rfl HM3.out (.slice A x.body.length c) rfl (HR.out.kept HK3.out (fun _ _ h => h)) (by have := front_len HF.out; omega) ?_); intro v4 w4 hr4 hk4; have HR4 := Lib.hid (show Rd w4 _ v4 (Wire.text x).length (Disk.bytes8 (Wire.text x)) from hr4); obtain ⟨A4, c4, hv4, _⟩ := hr4.slice; replace hv4 : v4 = .slice A4 (Wire.text x).length c4 := hv4; subst hv4; have HK4 := Lib.hid hk4; clear hr4)
                      | (go_at_call 14; refine Rets.use (rwholeW_c (.slice A4 (Wire.text x).length c4) (Wire.text x) (HR4.out.lt.mono (fun k h => h.2)) (by omega) (text_b HX.out)) ?_; rw [HTT.out]; rintro v5 w5 ⟨hk5, u5, rfl, hO5⟩; have HO5 := Lib.hid hO5; obtain ⟨A5, c5, rfl, _⟩ := hO5.slice; have HK5 := Lib.hid hk5; clear hO5)
                      | ((with_reducible refine at_ 6 rfl ?_); go_must (refine step_alloc rfl _ rfl _ zq row_req rfl ?_); intro w6 hb6 hk6 hs6)
                      | ((with_reducible refine at_store 26 (.tmp 6) (.tmp 69) rfl ?_); go_must (refine step_store rfl _ _ _ rfl w5.heap.size 0 (reqC y (.slice A5 y.body.length c5)) _ _ rfl rfl hb6 (by simp [zq, reqC]) (info_reqC _ _) (by simp [reqC, Value.oneCell']) ?_); intro w7 hb7 hk7 hs7; rw [put_whole (by rfl)] at hb7; have HK7 := Lib.hid (fresh_set (Keeps.refl _ w5) hk6 hk7); have HB7 := Lib.hid hb7; have HK57 := Lib.hid (HK5.out.trans HK7.out (fun _ _ h => h)); have HKx := Lib.hid (((HK3.out.mono (S' := fun k => k = w1.heap.size) (fun _ _ h => h.elim)).trans HK4.out (fun _ _ h => h)).trans HK57.out (fun _ _ h => h.elim)); have HK07 := Lib.hid (((HK1.out.mono (S' := fun k => w.heap.size ≤ k) (fun _ _ h => h.elim)).trans HKx.out (fun k _ h => by have := HS1.out; omega)).mono (S' := fun _ => False) (fun k hk h => by omega)); have HBx := Lib.hid (HKx.out.heap HB1.out (fun h => by have h2 : w.heap.size = w1.heap.size := h; have := HS1.out; omega)); clear hb7 hb6 hk6 hk7)
                      | ((with_reducible refine at_ 81 rfl ?_); (refine step_load rfl _ _ rfl w.heap.size 0 (reqC x (.slice A x.body.length c)) _ _ (0, 0) _ rfl HBx.out rfl Try.underlying26 rfl (info_reqC _ _) ?_))
                      | ((with_reducible refine at_ 82 rfl ?_); (refine step_load rfl _ _ rfl w5.heap.size 0 (reqC y (.slice A5 y.body.length c5)) _ _ (0, 0) _ rfl HB7.out rfl Try.underlying26 rfl (info_reqC _ _) ?_))
                      | (go_at_call 15; refine Rets.use (same13_c x y HX.out HYo.out (.slice A x.body.length c) (.slice A5 y.body.length c5) (HR.out.kept HKx.out (fun k h h' => by have := HS1.out; omega)) (HO5.out.kept HK7.out (fun _ _ h => h)).rd (by omega)) ?_; rw [HD.out]; rintro _ w8 ⟨rfl, hk8⟩))
                    go_ret2
                    rw [HQ.out]
                    exact ⟨HK07.out.trans hk8 (fun _ _ h => h), .slice none 0 0, rfl, Rd.nil _ _⟩
                · have hnb : (n != ((Wire.text x).length : Int)) = true := by simpa using hn
                  have HQ := Lib.hid (show Wire.printF x = ([], 4) from HQ0.out.trans (if_neg (fun h => hn (Prod.mk.inj (Prod.mk.inj h).2).1)))
                  clear HQ0 he hn
                  go_enter Try.func26, Try.ntmps26
                  go_wp2_with (first
                    | (go_at_call 42; refine Rets.use (HDe.out _) ?_; rintro _ _ ⟨rfl, rfl⟩)
                    | ((with_reducible refine at_ 62 rfl ?_); rw [← HW.out]; go_must (refine step_str_mrow2 rfl _ _ _ rfl Try.underlying9 Try.underlying22 Try.underlying5 (Wire.front x) (front_b HX.out) (by rw [← HSf.out]; rfl) ?_); intro cc w3 hm3 hk3; have HM3 := Lib.hid hm3; have HK3 := Lib.hid hk3; have c3 := hk3.cell HC3.out (fun h => h); clear hm3)
                    | ((with_reducible refine at_ 65 rfl ?_); go_must (refine step_append_m rfl _ _ _ rfl Try.underlying22 row_byte w1.heap.size cc (Wire.front x) x.body rfl HM3.out (.slice A x.body.length c) rfl (HR.out.kept HK3.out (fun _ _ h => h)) (by have := front_len HF.out; omega) ?_); intro v4 w4 hr4 hk4; have HR4 := Lib.hid (show Rd w4 _ v4 (Wire.text x).length (Disk.bytes8 (Wire.text x)) from hr4); obtain ⟨A4, c4, hv4, _⟩ := hr4.slice; replace hv4 : v4 = .slice A4 (Wire.text x).length c4 := hv4; subst hv4; have HK4 := Lib.hid hk4; clear hr4)
                    | (go_at_call 14; refine Rets.use (rwholeW_c (.slice A4 (Wire.text x).length c4) (Wire.text x) (HR4.out.lt.mono (fun k h => h.2)) (by omega) (text_b HX.out)) ?_; rw [HTT.out]; rintro v5 w5 ⟨hk5, u5, rfl, hO5⟩; have HO5 := Lib.hid hO5; obtain ⟨A5, c5, rfl, _⟩ := hO5.slice; have HK5 := Lib.hid hk5; clear hO5)
                    | ((with_reducible refine at_ 6 rfl ?_); go_must (refine step_alloc rfl _ rfl _ zq row_req rfl ?_); intro w6 hb6 hk6 hs6)
                    | ((with_reducible refine at_store 26 (.tmp 6) (.tmp 69) rfl ?_); go_must (refine step_store rfl _ _ _ rfl w5.heap.size 0 (reqC y (.slice A5 y.body.length c5)) _ _ rfl rfl hb6 (by simp [zq, reqC]) (info_reqC _ _) (by simp [reqC, Value.oneCell']) ?_); intro w7 hb7 hk7 hs7; rw [put_whole (by rfl)] at hb7; have HK7 := Lib.hid (fresh_set (Keeps.refl _ w5) hk6 hk7); have HB7 := Lib.hid hb7; have HK57 := Lib.hid (HK5.out.trans HK7.out (fun _ _ h => h)); have HKx := Lib.hid (((HK3.out.mono (S' := fun k => k = w1.heap.size) (fun _ _ h => h.elim)).trans HK4.out (fun _ _ h => h)).trans HK57.out (fun _ _ h => h.elim)); have HK07 := Lib.hid (((HK1.out.mono (S' := fun k => w.heap.size ≤ k) (fun _ _ h => h.elim)).trans HKx.out (fun k _ h => by have := HS1.out; omega)).mono (S' := fun _ => False) (fun k hk h => by omega)); have HBx := Lib.hid (HKx.out.heap HB1.out (fun h => by have h2 : w.heap.size = w1.heap.size := h; have := HS1.out; omega)); clear hb7 hb6 hk6 hk7)
                    | ((with_reducible refine at_ 81 rfl ?_); (refine step_load rfl _ _ rfl w.heap.size 0 (reqC x (.slice A x.body.length c)) _ _ (0, 0) _ rfl HBx.out rfl Try.underlying26 rfl (info_reqC _ _) ?_))
                    | ((with_reducible refine at_ 82 rfl ?_); (refine step_load rfl _ _ rfl w5.heap.size 0 (reqC y (.slice A5 y.body.length c5)) _ _ (0, 0) _ rfl HB7.out rfl Try.underlying26 rfl (info_reqC _ _) ?_))
                    | (go_at_call 15; refine Rets.use (same13_c x y HX.out HYo.out (.slice A x.body.length c) (.slice A5 y.body.length c5) (HR.out.kept HKx.out (fun k h h' => by have := HS1.out; omega)) (HO5.out.kept HK7.out (fun _ _ h => h)).rd (by omega)) ?_; rw [HD.out]; rintro _ w8 ⟨rfl, hk8⟩))
                  go_ret2
                  rw [HQ.out]
                  exact ⟨HK07.out, .slice none 0 0, rfl, Rd.nil _ _⟩
              · have heb : (e != 0) = true := by simpa using he
                have HQ := Lib.hid (show Wire.printF x = ([], 4) from HQ0.out.trans (if_neg (fun h => he (Prod.mk.inj (Prod.mk.inj h).2).2)))
                clear HQ0 he
                go_enter Try.func26, Try.ntmps26
                go_wp2_with (first
                  | (go_at_call 42; refine Rets.use (HDe.out _) ?_; rintro _ _ ⟨rfl, rfl⟩)
                  | ((with_reducible refine at_ 62 rfl ?_); rw [← HW.out]; go_must (refine step_str_mrow2 rfl _ _ _ rfl Try.underlying9 Try.underlying22 Try.underlying5 (Wire.front x) (front_b HX.out) (by rw [← HSf.out]; rfl) ?_); intro cc w3 hm3 hk3; have HM3 := Lib.hid hm3; have HK3 := Lib.hid hk3; have c3 := hk3.cell HC3.out (fun h => h); clear hm3)
                  | ((with_reducible refine at_ 65 rfl ?_); go_must (refine step_append_m rfl _ _ _ rfl Try.underlying22 row_byte w1.heap.size cc (Wire.front x) x.body rfl HM3.out (.slice A x.body.length c) rfl (HR.out.kept HK3.out (fun _ _ h => h)) (by have := front_len HF.out; omega) ?_); intro v4 w4 hr4 hk4; have HR4 := Lib.hid (show Rd w4 _ v4 (Wire.text x).length (Disk.bytes8 (Wire.text x)) from hr4); obtain ⟨A4, c4, hv4, _⟩ := hr4.slice; replace hv4 : v4 = .slice A4 (Wire.text x).length c4 := hv4; subst hv4; have HK4 := Lib.hid hk4; clear hr4)
                  | (go_at_call 14; refine Rets.use (rwholeW_c (.slice A4 (Wire.text x).length c4) (Wire.text x) (HR4.out.lt.mono (fun k h => h.2)) (by omega) (text_b HX.out)) ?_; rw [HTT.out]; rintro v5 w5 ⟨hk5, u5, rfl, hO5⟩; have HO5 := Lib.hid hO5; obtain ⟨A5, c5, rfl, _⟩ := hO5.slice; have HK5 := Lib.hid hk5; clear hO5)
                  | ((with_reducible refine at_ 6 rfl ?_); go_must (refine step_alloc rfl _ rfl _ zq row_req rfl ?_); intro w6 hb6 hk6 hs6)
                  | ((with_reducible refine at_store 26 (.tmp 6) (.tmp 69) rfl ?_); go_must (refine step_store rfl _ _ _ rfl w5.heap.size 0 (reqC y (.slice A5 y.body.length c5)) _ _ rfl rfl hb6 (by simp [zq, reqC]) (info_reqC _ _) (by simp [reqC, Value.oneCell']) ?_); intro w7 hb7 hk7 hs7; rw [put_whole (by rfl)] at hb7; have HK7 := Lib.hid (fresh_set (Keeps.refl _ w5) hk6 hk7); have HB7 := Lib.hid hb7; have HK57 := Lib.hid (HK5.out.trans HK7.out (fun _ _ h => h)); have HKx := Lib.hid (((HK3.out.mono (S' := fun k => k = w1.heap.size) (fun _ _ h => h.elim)).trans HK4.out (fun _ _ h => h)).trans HK57.out (fun _ _ h => h.elim)); have HK07 := Lib.hid (((HK1.out.mono (S' := fun k => w.heap.size ≤ k) (fun _ _ h => h.elim)).trans HKx.out (fun k _ h => by have := HS1.out; omega)).mono (S' := fun _ => False) (fun k hk h => by omega)); have HBx := Lib.hid (HKx.out.heap HB1.out (fun h => by have h2 : w.heap.size = w1.heap.size := h; have := HS1.out; omega)); clear hb7 hb6 hk6 hk7)
                  | ((with_reducible refine at_ 81 rfl ?_); (refine step_load rfl _ _ rfl w.heap.size 0 (reqC x (.slice A x.body.length c)) _ _ (0, 0) _ rfl HBx.out rfl Try.underlying26 rfl (info_reqC _ _) ?_))
                  | ((with_reducible refine at_ 82 rfl ?_); (refine step_load rfl _ _ rfl w5.heap.size 0 (reqC y (.slice A5 y.body.length c5)) _ _ (0, 0) _ rfl HB7.out rfl Try.underlying26 rfl (info_reqC _ _) ?_))
                  | (go_at_call 15; refine Rets.use (same13_c x y HX.out HYo.out (.slice A x.body.length c) (.slice A5 y.body.length c5) (HR.out.kept HKx.out (fun k h h' => by have := HS1.out; omega)) (HO5.out.kept HK7.out (fun _ _ h => h)).rd (by omega)) ?_; rw [HD.out]; rintro _ w8 ⟨rfl, hk8⟩))
                go_ret2
                rw [HQ.out]
                exact ⟨HK07.out, .slice none 0 0, rfl, Rd.nil _ _⟩
            · have hbl : 0 < x.body.length := by cases h : x.body with | nil => exact (hb h).elim | cons => simp
              obtain ⟨sd, hsd⟩ : ∃ s, s = str (decF (x.body.length : Int)) := ⟨_, rfl⟩
              obtain ⟨s8, hs8'⟩ : ∃ s, s = str (Wire.withA x ++ Wire.kL) := ⟨_, rfl⟩
              obtain ⟨s9, hs9'⟩ : ∃ s, s = str ((Wire.withA x ++ Wire.kL) ++ decF (x.body.length : Int)) := ⟨_, rfl⟩
              obtain ⟨s5, hs5'⟩ : ∃ s, s = str (Wire.withL x) := ⟨_, rfl⟩
              have hdl := dec_len (x.body.length : Int)
              have b1 : ∀ w', (Op.stringOp .add s4 ⟨#[67, 111, 110, 116, 101, 110, 116, 45, 76, 101, 110, 103, 116, 104, 58, 32]⟩).run Try.prog w' = .ok (.string s8) w' := fun w' => by rw [hs8', hs4']; exact add_str (b := Wire.kL) (by simp only [Wire.kL, List.length_cons, List.length_nil]; omega) w'
              have b2 : ∀ w', (Op.stringOp .add s8 sd).run Try.prog w' = .ok (.string s9) w' := fun w' => by rw [hs8', hs9', hsd]; exact add_str (by simp only [Wire.kL, List.length_append, List.length_cons, List.length_nil]; omega) w'
              have b3 : ∀ w', (Op.stringOp .add s9 ⟨#[13, 10]⟩).run Try.prog w' = .ok (.string s5) w' := fun w' => by rw [hs9', hs5']; have := add_str (a := (Wire.withA x ++ Wire.kL) ++ decF (x.body.length : Int)) (b := Wire.crlf) (by simp only [Wire.kL, Wire.crlf, List.length_append, List.length_cons, List.length_nil]; omega) w'; rw [show ((Wire.withA x ++ Wire.kL) ++ decF (x.body.length : Int)) ++ Wire.crlf = Wire.withL x by unfold Wire.withL; rw [if_neg hb]; simp only [List.append_assoc]] at this; exact this
              have hll : (Wire.withL x).length ≤ 1800 := by unfold Wire.withL Wire.kL Wire.crlf; rw [if_neg hb]; simp only [List.length_append, List.length_cons, List.length_nil]; omega
              have ae : ∀ w', (Op.stringOp .add s5 ⟨#[13, 10]⟩).run Try.prog w' = .ok (.string sf) w' := fun w' => by rw [hs5', hsf]; exact add_str (b := Wire.crlf) (by simp only [Wire.crlf, List.length_cons, List.length_nil]; omega) w'
              have HSd := Lib.hid hsd
              have HDe := Lib.hid (fun w' => show Calls Try.prog 42 #[.int .i64 (x.body.length : Int)] w' (Rets (Only (.string sd) w')) by rw [hsd]; exact rdec64_c (x.body.length : Int) (by omega) (by omega) w')
              clear hw1 hb1 hr hx hf hsm hst hsk hs1' hs2' hs3' hs4' hsf hsd hs8' hs9' hs5' ht hb hk1 hdl
              obtain ⟨t, htt⟩ : ∃ t, Wire.whole (Wire.text x) = t := ⟨_, rfl⟩
              have HTT := Lib.hid (show Wire.docWhole (Wire.text x) = t by rw [← Wire.whole_doc]; exact htt)
              have htl : (Wire.text x).length ≤ 4100 := by have := front_len HF.out; unfold Wire.text; rw [List.length_append]; omega
              have hgd := whole_good (Wire.text x) (text_b HX.out)
              rw [htt] at hgd
              have HYo := Lib.hid hgd.1
              obtain ⟨y, n, e⟩ := t
              rw [htt] at HQ0
              clear htt hgd
              by_cases he : e = 0
              · have heb : (e != 0) = false := by rw [he]; rfl
                by_cases hn : n = ((Wire.text x).length : Int)
                · have hnb : (n != ((Wire.text x).length : Int)) = false := by rw [hn]; simp
                  by_cases q4 : x = y
                  · have hd : decide (x = y) = true := decide_eq_true q4
                    have HD := Lib.hid hd
                    have HQ := Lib.hid (show Wire.printF x = (Wire.text x, 0) from HQ0.out.trans (if_pos (by rw [Prod.mk.injEq, Prod.mk.injEq]; exact ⟨q4.symm, hn, he⟩)))
                    clear HQ0 he hn q4 hd
                    go_enter Try.func26, Try.ntmps26
                    go_wp2_with (first
                      | (go_at_call 42; refine Rets.use (HDe.out _) ?_; rintro _ _ ⟨rfl, rfl⟩)
                      | ((with_reducible refine at_ 62 rfl ?_); rw [← HW.out]; go_must (refine step_str_mrow2 rfl _ _ _ rfl Try.underlying9 Try.underlying22 Try.underlying5 (Wire.front x) (front_b HX.out) (by rw [← HSf.out]; rfl) ?_); intro cc w3 hm3 hk3; have HM3 := Lib.hid hm3; have HK3 := Lib.hid hk3; have c3 := hk3.cell HC3.out (fun h => h); clear hm3)
                      | ((with_reducible refine at_ 65 rfl ?_); go_must (refine step_append_m rfl _ _ _ rfl Try.underlying22 row_byte w1.heap.size cc (Wire.front x) x.body rfl HM3.out (.slice A x.body.length c) rfl (HR.out.kept HK3.out (fun _ _ h => h)) (by have := front_len HF.out; omega) ?_); intro v4 w4 hr4 hk4; have HR4 := Lib.hid (show Rd w4 _ v4 (Wire.text x).length (Disk.bytes8 (Wire.text x)) from hr4); obtain ⟨A4, c4, hv4, _⟩ := hr4.slice; replace hv4 : v4 = .slice A4 (Wire.text x).length c4 := hv4; subst hv4; have HK4 := Lib.hid hk4; clear hr4)
                      | (go_at_call 14; refine Rets.use (rwholeW_c (.slice A4 (Wire.text x).length c4) (Wire.text x) (HR4.out.lt.mono (fun k h => h.2)) (by omega) (text_b HX.out)) ?_; rw [HTT.out]; rintro v5 w5 ⟨hk5, u5, rfl, hO5⟩; have HO5 := Lib.hid hO5; obtain ⟨A5, c5, rfl, _⟩ := hO5.slice; have HK5 := Lib.hid hk5; clear hO5)
                      | ((with_reducible refine at_ 6 rfl ?_); go_must (refine step_alloc rfl _ rfl _ zq row_req rfl ?_); intro w6 hb6 hk6 hs6)
                      | ((with_reducible refine at_store 26 (.tmp 6) (.tmp 69) rfl ?_); go_must (refine step_store rfl _ _ _ rfl w5.heap.size 0 (reqC y (.slice A5 y.body.length c5)) _ _ rfl rfl hb6 (by simp [zq, reqC]) (info_reqC _ _) (by simp [reqC, Value.oneCell']) ?_); intro w7 hb7 hk7 hs7; rw [put_whole (by rfl)] at hb7; have HK7 := Lib.hid (fresh_set (Keeps.refl _ w5) hk6 hk7); have HB7 := Lib.hid hb7; have HK57 := Lib.hid (HK5.out.trans HK7.out (fun _ _ h => h)); have HKx := Lib.hid (((HK3.out.mono (S' := fun k => k = w1.heap.size) (fun _ _ h => h.elim)).trans HK4.out (fun _ _ h => h)).trans HK57.out (fun _ _ h => h.elim)); have HK07 := Lib.hid (((HK1.out.mono (S' := fun k => w.heap.size ≤ k) (fun _ _ h => h.elim)).trans HKx.out (fun k _ h => by have := HS1.out; omega)).mono (S' := fun _ => False) (fun k hk h => by omega)); have HBx := Lib.hid (HKx.out.heap HB1.out (fun h => by have h2 : w.heap.size = w1.heap.size := h; have := HS1.out; omega)); clear hb7 hb6 hk6 hk7)
                      | ((with_reducible refine at_ 81 rfl ?_); (refine step_load rfl _ _ rfl w.heap.size 0 (reqC x (.slice A x.body.length c)) _ _ (0, 0) _ rfl HBx.out rfl Try.underlying26 rfl (info_reqC _ _) ?_))
                      | ((with_reducible refine at_ 82 rfl ?_); (refine step_load rfl _ _ rfl w5.heap.size 0 (reqC y (.slice A5 y.body.length c5)) _ _ (0, 0) _ rfl HB7.out rfl Try.underlying26 rfl (info_reqC _ _) ?_))
                      | (go_at_call 15; refine Rets.use (same13_c x y HX.out HYo.out (.slice A x.body.length c) (.slice A5 y.body.length c5) (HR.out.kept HKx.out (fun k h h' => by have := HS1.out; omega)) (HO5.out.kept HK7.out (fun _ _ h => h)).rd (by omega)) ?_; rw [HD.out]; rintro _ w8 ⟨rfl, hk8⟩))
                    go_ret2
                    rw [HQ.out]
                    exact ⟨HK07.out.trans hk8 (fun _ _ h => h), .slice A4 (Wire.text x).length c4, rfl, ((HR4.out.kept HK57.out (fun _ _ h => h)).kept hk8 (fun _ _ h => h)).mono (fun k h => by have := HK3.out.size; have := HS1.out; omega)⟩
                  · have hd : decide (x = y) = false := decide_eq_false q4
                    have HD := Lib.hid hd
                    have HQ := Lib.hid (show Wire.printF x = ([], 4) from HQ0.out.trans (if_neg (fun h => q4 (Prod.mk.inj h).1.symm)))
                    clear HQ0 he hn q4 hd
                    go_enter Try.func26, Try.ntmps26
                    go_wp2_with (first
                      | (go_at_call 42; refine Rets.use (HDe.out _) ?_; rintro _ _ ⟨rfl, rfl⟩)
                      | ((with_reducible refine at_ 62 rfl ?_); rw [← HW.out]; go_must (refine step_str_mrow2 rfl _ _ _ rfl Try.underlying9 Try.underlying22 Try.underlying5 (Wire.front x) (front_b HX.out) (by rw [← HSf.out]; rfl) ?_); intro cc w3 hm3 hk3; have HM3 := Lib.hid hm3; have HK3 := Lib.hid hk3; have c3 := hk3.cell HC3.out (fun h => h); clear hm3)
                      | ((with_reducible refine at_ 65 rfl ?_); go_must (refine step_append_m rfl _ _ _ rfl Try.underlying22 row_byte w1.heap.size cc (Wire.front x) x.body rfl HM3.out (.slice A x.body.length c) rfl (HR.out.kept HK3.out (fun _ _ h => h)) (by have := front_len HF.out; omega) ?_); intro v4 w4 hr4 hk4; have HR4 := Lib.hid (show Rd w4 _ v4 (Wire.text x).length (Disk.bytes8 (Wire.text x)) from hr4); obtain ⟨A4, c4, hv4, _⟩ := hr4.slice; replace hv4 : v4 = .slice A4 (Wire.text x).length c4 := hv4; subst hv4; have HK4 := Lib.hid hk4; clear hr4)
                      | (go_at_call 14; refine Rets.use (rwholeW_c (.slice A4 (Wire.text x).length c4) (Wire.text x) (HR4.out.lt.mono (fun k h => h.2)) (by omega) (text_b HX.out)) ?_; rw [HTT.out]; rintro v5 w5 ⟨hk5, u5, rfl, hO5⟩; have HO5 := Lib.hid hO5; obtain ⟨A5, c5, rfl, _⟩ := hO5.slice; have HK5 := Lib.hid hk5; clear hO5)
                      | ((with_reducible refine at_ 6 rfl ?_); go_must (refine step_alloc rfl _ rfl _ zq row_req rfl ?_); intro w6 hb6 hk6 hs6)
                      | ((with_reducible refine at_store 26 (.tmp 6) (.tmp 69) rfl ?_); go_must (refine step_store rfl _ _ _ rfl w5.heap.size 0 (reqC y (.slice A5 y.body.length c5)) _ _ rfl rfl hb6 (by simp [zq, reqC]) (info_reqC _ _) (by simp [reqC, Value.oneCell']) ?_); intro w7 hb7 hk7 hs7; rw [put_whole (by rfl)] at hb7; have HK7 := Lib.hid (fresh_set (Keeps.refl _ w5) hk6 hk7); have HB7 := Lib.hid hb7; have HK57 := Lib.hid (HK5.out.trans HK7.out (fun _ _ h => h)); have HKx := Lib.hid (((HK3.out.mono (S' := fun k => k = w1.heap.size) (fun _ _ h => h.elim)).trans HK4.out (fun _ _ h => h)).trans HK57.out (fun _ _ h => h.elim)); have HK07 := Lib.hid (((HK1.out.mono (S' := fun k => w.heap.size ≤ k) (fun _ _ h => h.elim)).trans HKx.out (fun k _ h => by have := HS1.out; omega)).mono (S' := fun _ => False) (fun k hk h => by omega)); have HBx := Lib.hid (HKx.out.heap HB1.out (fun h => by have h2 : w.heap.size = w1.heap.size := h; have := HS1.out; omega)); clear hb7 hb6 hk6 hk7)
                      | ((with_reducible refine at_ 81 rfl ?_); (refine step_load rfl _ _ rfl w.heap.size 0 (reqC x (.slice A x.body.length c)) _ _ (0, 0) _ rfl HBx.out rfl Try.underlying26 rfl (info_reqC _ _) ?_))
                      | ((with_reducible refine at_ 82 rfl ?_); (refine step_load rfl _ _ rfl w5.heap.size 0 (reqC y (.slice A5 y.body.length c5)) _ _ (0, 0) _ rfl HB7.out rfl Try.underlying26 rfl (info_reqC _ _) ?_))
                      | (go_at_call 15; refine Rets.use (same13_c x y HX.out HYo.out (.slice A x.body.length c) (.slice A5 y.body.length c5) (HR.out.kept HKx.out (fun k h h' => by have := HS1.out; omega)) (HO5.out.kept HK7.out (fun _ _ h => h)).rd (by omega)) ?_; rw [HD.out]; rintro _ w8 ⟨rfl, hk8⟩))
                    go_ret2
                    rw [HQ.out]
                    exact ⟨HK07.out.trans hk8 (fun _ _ h => h), .slice none 0 0, rfl, Rd.nil _ _⟩
                · have hnb : (n != ((Wire.text x).length : Int)) = true := by simpa using hn
                  have HQ := Lib.hid (show Wire.printF x = ([], 4) from HQ0.out.trans (if_neg (fun h => hn (Prod.mk.inj (Prod.mk.inj h).2).1)))
                  clear HQ0 he hn
                  go_enter Try.func26, Try.ntmps26
                  go_wp2_with (first
                    | (go_at_call 42; refine Rets.use (HDe.out _) ?_; rintro _ _ ⟨rfl, rfl⟩)
                    | ((with_reducible refine at_ 62 rfl ?_); rw [← HW.out]; go_must (refine step_str_mrow2 rfl _ _ _ rfl Try.underlying9 Try.underlying22 Try.underlying5 (Wire.front x) (front_b HX.out) (by rw [← HSf.out]; rfl) ?_); intro cc w3 hm3 hk3; have HM3 := Lib.hid hm3; have HK3 := Lib.hid hk3; have c3 := hk3.cell HC3.out (fun h => h); clear hm3)
                    | ((with_reducible refine at_ 65 rfl ?_); go_must (refine step_append_m rfl _ _ _ rfl Try.underlying22 row_byte w1.heap.size cc (Wire.front x) x.body rfl HM3.out (.slice A x.body.length c) rfl (HR.out.kept HK3.out (fun _ _ h => h)) (by have := front_len HF.out; omega) ?_); intro v4 w4 hr4 hk4; have HR4 := Lib.hid (show Rd w4 _ v4 (Wire.text x).length (Disk.bytes8 (Wire.text x)) from hr4); obtain ⟨A4, c4, hv4, _⟩ := hr4.slice; replace hv4 : v4 = .slice A4 (Wire.text x).length c4 := hv4; subst hv4; have HK4 := Lib.hid hk4; clear hr4)
                    | (go_at_call 14; refine Rets.use (rwholeW_c (.slice A4 (Wire.text x).length c4) (Wire.text x) (HR4.out.lt.mono (fun k h => h.2)) (by omega) (text_b HX.out)) ?_; rw [HTT.out]; rintro v5 w5 ⟨hk5, u5, rfl, hO5⟩; have HO5 := Lib.hid hO5; obtain ⟨A5, c5, rfl, _⟩ := hO5.slice; have HK5 := Lib.hid hk5; clear hO5)
                    | ((with_reducible refine at_ 6 rfl ?_); go_must (refine step_alloc rfl _ rfl _ zq row_req rfl ?_); intro w6 hb6 hk6 hs6)
                    | ((with_reducible refine at_store 26 (.tmp 6) (.tmp 69) rfl ?_); go_must (refine step_store rfl _ _ _ rfl w5.heap.size 0 (reqC y (.slice A5 y.body.length c5)) _ _ rfl rfl hb6 (by simp [zq, reqC]) (info_reqC _ _) (by simp [reqC, Value.oneCell']) ?_); intro w7 hb7 hk7 hs7; rw [put_whole (by rfl)] at hb7; have HK7 := Lib.hid (fresh_set (Keeps.refl _ w5) hk6 hk7); have HB7 := Lib.hid hb7; have HK57 := Lib.hid (HK5.out.trans HK7.out (fun _ _ h => h)); have HKx := Lib.hid (((HK3.out.mono (S' := fun k => k = w1.heap.size) (fun _ _ h => h.elim)).trans HK4.out (fun _ _ h => h)).trans HK57.out (fun _ _ h => h.elim)); have HK07 := Lib.hid (((HK1.out.mono (S' := fun k => w.heap.size ≤ k) (fun _ _ h => h.elim)).trans HKx.out (fun k _ h => by have := HS1.out; omega)).mono (S' := fun _ => False) (fun k hk h => by omega)); have HBx := Lib.hid (HKx.out.heap HB1.out (fun h => by have h2 : w.heap.size = w1.heap.size := h; have := HS1.out; omega)); clear hb7 hb6 hk6 hk7)
                    | ((with_reducible refine at_ 81 rfl ?_); (refine step_load rfl _ _ rfl w.heap.size 0 (reqC x (.slice A x.body.length c)) _ _ (0, 0) _ rfl HBx.out rfl Try.underlying26 rfl (info_reqC _ _) ?_))
                    | ((with_reducible refine at_ 82 rfl ?_); (refine step_load rfl _ _ rfl w5.heap.size 0 (reqC y (.slice A5 y.body.length c5)) _ _ (0, 0) _ rfl HB7.out rfl Try.underlying26 rfl (info_reqC _ _) ?_))
                    | (go_at_call 15; refine Rets.use (same13_c x y HX.out HYo.out (.slice A x.body.length c) (.slice A5 y.body.length c5) (HR.out.kept HKx.out (fun k h h' => by have := HS1.out; omega)) (HO5.out.kept HK7.out (fun _ _ h => h)).rd (by omega)) ?_; rw [HD.out]; rintro _ w8 ⟨rfl, hk8⟩))
                  go_ret2
                  rw [HQ.out]
                  exact ⟨HK07.out, .slice none 0 0, rfl, Rd.nil _ _⟩
              · have heb : (e != 0) = true := by simpa using he
                have HQ := Lib.hid (show Wire.printF x = ([], 4) from HQ0.out.trans (if_neg (fun h => he (Prod.mk.inj (Prod.mk.inj h).2).2)))
                clear HQ0 he
                go_enter Try.func26, Try.ntmps26
                go_wp2_with (first
                  | (go_at_call 42; refine Rets.use (HDe.out _) ?_; rintro _ _ ⟨rfl, rfl⟩)
                  | ((with_reducible refine at_ 62 rfl ?_); rw [← HW.out]; go_must (refine step_str_mrow2 rfl _ _ _ rfl Try.underlying9 Try.underlying22 Try.underlying5 (Wire.front x) (front_b HX.out) (by rw [← HSf.out]; rfl) ?_); intro cc w3 hm3 hk3; have HM3 := Lib.hid hm3; have HK3 := Lib.hid hk3; have c3 := hk3.cell HC3.out (fun h => h); clear hm3)
                  | ((with_reducible refine at_ 65 rfl ?_); go_must (refine step_append_m rfl _ _ _ rfl Try.underlying22 row_byte w1.heap.size cc (Wire.front x) x.body rfl HM3.out (.slice A x.body.length c) rfl (HR.out.kept HK3.out (fun _ _ h => h)) (by have := front_len HF.out; omega) ?_); intro v4 w4 hr4 hk4; have HR4 := Lib.hid (show Rd w4 _ v4 (Wire.text x).length (Disk.bytes8 (Wire.text x)) from hr4); obtain ⟨A4, c4, hv4, _⟩ := hr4.slice; replace hv4 : v4 = .slice A4 (Wire.text x).length c4 := hv4; subst hv4; have HK4 := Lib.hid hk4; clear hr4)
                  | (go_at_call 14; refine Rets.use (rwholeW_c (.slice A4 (Wire.text x).length c4) (Wire.text x) (HR4.out.lt.mono (fun k h => h.2)) (by omega) (text_b HX.out)) ?_; rw [HTT.out]; rintro v5 w5 ⟨hk5, u5, rfl, hO5⟩; have HO5 := Lib.hid hO5; obtain ⟨A5, c5, rfl, _⟩ := hO5.slice; have HK5 := Lib.hid hk5; clear hO5)
                  | ((with_reducible refine at_ 6 rfl ?_); go_must (refine step_alloc rfl _ rfl _ zq row_req rfl ?_); intro w6 hb6 hk6 hs6)
                  | ((with_reducible refine at_store 26 (.tmp 6) (.tmp 69) rfl ?_); go_must (refine step_store rfl _ _ _ rfl w5.heap.size 0 (reqC y (.slice A5 y.body.length c5)) _ _ rfl rfl hb6 (by simp [zq, reqC]) (info_reqC _ _) (by simp [reqC, Value.oneCell']) ?_); intro w7 hb7 hk7 hs7; rw [put_whole (by rfl)] at hb7; have HK7 := Lib.hid (fresh_set (Keeps.refl _ w5) hk6 hk7); have HB7 := Lib.hid hb7; have HK57 := Lib.hid (HK5.out.trans HK7.out (fun _ _ h => h)); have HKx := Lib.hid (((HK3.out.mono (S' := fun k => k = w1.heap.size) (fun _ _ h => h.elim)).trans HK4.out (fun _ _ h => h)).trans HK57.out (fun _ _ h => h.elim)); have HK07 := Lib.hid (((HK1.out.mono (S' := fun k => w.heap.size ≤ k) (fun _ _ h => h.elim)).trans HKx.out (fun k _ h => by have := HS1.out; omega)).mono (S' := fun _ => False) (fun k hk h => by omega)); have HBx := Lib.hid (HKx.out.heap HB1.out (fun h => by have h2 : w.heap.size = w1.heap.size := h; have := HS1.out; omega)); clear hb7 hb6 hk6 hk7)
                  | ((with_reducible refine at_ 81 rfl ?_); (refine step_load rfl _ _ rfl w.heap.size 0 (reqC x (.slice A x.body.length c)) _ _ (0, 0) _ rfl HBx.out rfl Try.underlying26 rfl (info_reqC _ _) ?_))
                  | ((with_reducible refine at_ 82 rfl ?_); (refine step_load rfl _ _ rfl w5.heap.size 0 (reqC y (.slice A5 y.body.length c5)) _ _ (0, 0) _ rfl HB7.out rfl Try.underlying26 rfl (info_reqC _ _) ?_))
                  | (go_at_call 15; refine Rets.use (same13_c x y HX.out HYo.out (.slice A x.body.length c) (.slice A5 y.body.length c5) (HR.out.kept HKx.out (fun k h h' => by have := HS1.out; omega)) (HO5.out.kept HK7.out (fun _ _ h => h)).rd (by omega)) ?_; rw [HD.out]; rintro _ w8 ⟨rfl, hk8⟩))
                go_ret2
                rw [HQ.out]
                exact ⟨HK07.out, .slice none 0 0, rfl, Rd.nil _ _⟩
end Go.Proofs.Ytibegbmehpggbaa
