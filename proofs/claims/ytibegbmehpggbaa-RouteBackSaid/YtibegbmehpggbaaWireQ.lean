/-
  The walks of package wire: Print.
-/
import Derived.Test.YtibegbmehpggbaaWireM
import Derived.Test.YtibegbmehpggbaaMarkA
import Derived.Test.YtibegbmehpggbaaTxtE
namespace Go.Proofs.Ytibegbmehpggbaa
open Go.RowKit Go.Canon Go.Mem
set_option linter.unusedVariables false
set_option linter.unusedSimpArgs false
namespace Wire
def hv : List Int := [32, 72, 84, 84, 80, 47, 49, 46, 49, 13, 10]
def kA : List Int := [65, 117, 116, 104, 111, 114, 105, 122, 97, 116, 105, 111, 110, 58, 32, 66, 101, 97, 114, 101, 114, 32]
def kL : List Int := [67, 111, 110, 116, 101, 110, 116, 45, 76, 101, 110, 103, 116, 104, 58, 32]
def crlf : List Int := [13, 10]
def headT (x : ReqP) : List Int := ((x.method ++ [32]) ++ x.target) ++ hv
def withA (x : ReqP) : List Int := if x.token = [] then headT x else headT x ++ ((kA ++ x.token) ++ crlf)
def withL (x : ReqP) : List Int := if x.body = [] then withA x else withA x ++ ((kL ++ decF x.body.length) ++ crlf)
def front (x : ReqP) : List Int := withL x ++ crlf
def text (x : ReqP) : List Int := front x ++ x.body
/-- What is printed of a request. -/
def printF (x : ReqP) : List Int × Int := if 2048 < x.body.length then ([], 4) else if whole (text x) = (x, ((text x).length : Int), 0) then (text x, 0) else ([], 4)
end Wire
/-- A request whose parts are cut. -/
structure ReqP.Few (x : ReqP) : Prop where
  m : x.method.length ≤ 50
  t : x.target.length ≤ 200
  k : x.token.length ≤ 1200
  b : x.body.length ≤ 2100
theorem hv_b : IsB Wire.hv := by unfold Wire.hv IsB; simp
theorem kA_b : IsB Wire.kA := by unfold Wire.kA IsB; simp
theorem kL_b : IsB Wire.kL := by unfold Wire.kL IsB; simp
theorem crlf_b : IsB Wire.crlf := by unfold Wire.crlf IsB; simp
theorem headT_b {x : ReqP} (h : x.Ok) : IsB (Wire.headT x) := ((h.method.app (IsB.one (by decide))).app h.target).app hv_b
theorem withA_b {x : ReqP} (h : x.Ok) : IsB (Wire.withA x) := by
  unfold Wire.withA
  split
  · exact headT_b h
  · exact (headT_b h).app ((kA_b.app h.token).app crlf_b)
theorem withL_b {x : ReqP} (h : x.Ok) : IsB (Wire.withL x) := by
  unfold Wire.withL
  split
  · exact withA_b h
  · exact (withA_b h).app ((kL_b.app (dec_byte _)).app crlf_b)
theorem front_b {x : ReqP} (h : x.Ok) : IsB (Wire.front x) := (withL_b h).app crlf_b
theorem text_b {x : ReqP} (h : x.Ok) : IsB (Wire.text x) := (front_b h).app h.body
theorem front_len {x : ReqP} (h : x.Few) : (Wire.front x).length ≤ 2000 := by
  have h1 := h.m
  have h2 := h.t
  have h3 := h.k
  have h4 := dec_len (x.body.length : Int)
  unfold Wire.front Wire.withL Wire.withA Wire.headT Wire.hv Wire.kA Wire.kL Wire.crlf
  split <;> split <;> simp only [List.length_append, List.length_cons, List.length_nil] <;> omega
/-- What is printed; bytes in memory of its own. -/
def PrintIs (w : World) (p : List Int × Int) : Value → World → Prop := fun v w' => Keeps (fun _ => False) w w' ∧ ∃ u, v = .tuple #[u, .int .i64 p.2] ∧ Rd w' (fun k => w.heap.size ≤ k) u p.1.length (Disk.bytes8 p.1)
set_option maxHeartbeats 400000 in
theorem equal_c {w : World} {ok ok2 : Nat → Prop} (v u : Value) (xs ys : List Int) (hx : IsB xs) (hy : IsB ys) (h1 : Rd w ok v xs.length (Disk.bytes8 xs)) (h2 : Rd w ok2 u ys.length (Disk.bytes8 ys)) : Calls Try.prog 41 #[v, u] w (Rets (Only (.bool (decide (xs = ys))) w)) := by
  have he := str_eq hx hy
  go_enter Try.func41, Try.ntmps41
  go_wp2_with (first
    | ((with_reducible refine at_ 6 rfl ?_); go_must (refine step_bytes_str rfl _ _ _ rfl 5 Try.underlying22 Try.underlying5 Try.underlying9 _ xs rfl h1 hx ?_))
    | ((with_reducible refine at_ 8 rfl ?_); go_must (refine step_bytes_str rfl _ _ _ rfl 5 Try.underlying22 Try.underlying5 Try.underlying9 _ ys rfl h2 hy ?_)))
  go_ret
  exact ⟨rfl, rfl⟩
theorem str_pos {l : List Int} (h : l ≠ []) : ((str l).toList == []) = false := str_nil h
set_option maxHeartbeats 6400000 in
set_option maxRecDepth 100000 in
theorem printW_c {w : World} {ok : Nat → Prop} (x : ReqP) (hx : x.Ok) (hf : x.Few) (v : Value) (hr : Rd w ok v x.body.length (Disk.bytes8 x.body)) : Calls Try.prog 25 #[reqV x v] w (Rets (PrintIs w (Wire.printF x))) := by
  obtain ⟨A, c, rfl, hc, _⟩ := hr.slice
  have f1 := hf.m
  have f2 := hf.t
  have f3 := hf.k
  have f4 := hf.b
  have z1 := str_size x.method
  have z2 := str_size x.target
  have z3 := str_size x.token
  unfold reqV
  obtain ⟨sm, hsm⟩ : ∃ s, s = str x.method := ⟨_, rfl⟩
  obtain ⟨st, hst⟩ : ∃ s, s = str x.target := ⟨_, rfl⟩
  obtain ⟨sk, hsk⟩ : ∃ s, s = str x.token := ⟨_, rfl⟩
  obtain ⟨w1, hw1⟩ : ∃ w1, w1 = w.alloc (.cells #[.string sm, .string st, .string sk, .slice A x.body.length c] 26) := ⟨_, rfl⟩
  obtain ⟨hb1, hk1, hs1⟩ := alloc1 hw1
  have c0 : w1.cell? ⟨w.heap.size, 0, none⟩ = some (.string sm) := cell_of_row w1 _ _ _ _ _ hb1
  have c1 : w1.cell? ⟨w.heap.size, 1, none⟩ = some (.string st) := cell_of_row w1 _ _ _ _ _ hb1
  have c2 : w1.cell? ⟨w.heap.size, 2, none⟩ = some (.string sk) := cell_of_row w1 _ _ _ _ _ hb1
  have c3 : w1.cell? ⟨w.heap.size, 3, none⟩ = some (.slice A x.body.length c) := cell_of_row w1 _ _ _ _ _ hb1
  rw [← hsm, ← hst, ← hsk]
  rw [← hsm] at z1
  rw [← hst] at z2
  rw [← hsk] at z3
  have HW := Lib.hid hw1
  have HB1 := Lib.hid hb1
  have HC0 := Lib.hid c0
  have HC1 := Lib.hid c1
  have HC2 := Lib.hid c2
  have HC3 := Lib.hid c3
  rw [hw1] at c0 c1 c2 c3
  have HR := Lib.hid (hr.kept hk1 (fun _ _ h => h))
  have HX := Lib.hid hx
  have HF := Lib.hid hf
  have HSm := Lib.hid hsm
  have HSt := Lib.hid hst
  have HSk := Lib.hid hsk
  by_cases hbig : 2048 < x.body.length
  · have HQ := Lib.hid (show Wire.printF x = ([], 4) by unfold Wire.printF; rw [if_pos hbig])
    clear hw1 hb1 hr hx hf hsm hst hsk
    go_enter Try.func25, Try.ntmps25
    go_wp2
    go_ret2
    rw [← HW.out]
    rw [HQ.out]
    exact ⟨hk1, .slice none 0 0, rfl, Rd.nil _ _⟩
  · have HQ0 := Lib.hid (show Wire.printF x = if Wire.whole (Wire.text x) = (x, ((Wire.text x).length : Int), 0) then (Wire.text x, 0) else ([], 4) by unfold Wire.printF; rw [if_neg hbig])
    obtain ⟨s1, hs1'⟩ : ∃ s, s = str (x.method ++ [32]) := ⟨_, rfl⟩
    obtain ⟨s2, hs2'⟩ : ∃ s, s = str ((x.method ++ [32]) ++ x.target) := ⟨_, rfl⟩
    obtain ⟨s3, hs3'⟩ : ∃ s, s = str (Wire.headT x) := ⟨_, rfl⟩
    have a1 : ∀ w', (Op.stringOp .add sm ⟨#[32]⟩).run Try.prog w' = .ok (.string s1) w' := fun w' => by rw [hs1', hsm]; exact add_str (b := [32]) (by simp only [List.length_cons, List.length_nil]; omega) w'
    have a2 : ∀ w', (Op.stringOp .add s1 st).run Try.prog w' = .ok (.string s2) w' := fun w' => by rw [hs1', hs2', hst]; exact add_str (by simp only [List.length_append, List.length_cons, List.length_nil]; omega) w'
    have a3 : ∀ w', (Op.stringOp .add s2 ⟨#[32, 72, 84, 84, 80, 47, 49, 46, 49, 13, 10]⟩).run Try.prog w' = .ok (.string s3) w' := fun w' => by rw [hs2', hs3']; exact add_str (b := Wire.hv) (by simp only [Wire.hv, List.length_append, List.length_cons, List.length_nil]; omega) w'
    have hhl : (Wire.headT x).length ≤ 300 := by unfold Wire.headT Wire.hv; simp only [List.length_append, List.length_cons, List.length_nil]; omega
    by_cases ht : x.token = []
    · have hE : (sk.toList == []) = true := by rw [hsk, ht, ByteArray.toList_eq]; rfl
      obtain ⟨s4, hs4'⟩ : ∃ s, s = str (Wire.withA x) := ⟨_, rfl⟩
      have e34 : s3 = s4 := by rw [hs3', hs4']; unfold Wire.withA; rw [if_pos ht]
      rw [e34] at a3
      have hal : (Wire.withA x).length ≤ 1700 := by unfold Wire.withA; rw [if_pos ht]; omega
      obtain ⟨sf, hsf⟩ : ∃ s, s = str (Wire.front x) := ⟨_, rfl⟩
      have HSf := Lib.hid hsf
      have HK1 := Lib.hid hk1
      by_cases hb : x.body = []
      · have e0 : x.body.length ≤ 0 := by rw [hb]; exact Nat.le_refl _
        have ae : ∀ w', (Op.stringOp .add s4 ⟨#[13, 10]⟩).run Try.prog w' = .ok (.string sf) w' := fun w' => by rw [hs4', hsf]; unfold Wire.front Wire.withL; rw [if_pos hb]; exact add_str (b := Wire.crlf) (by simp only [Wire.crlf, List.length_cons, List.length_nil]; omega) w'
        obtain ⟨w2, hw2⟩ : ∃ w2, w2 = w1 := ⟨_, rfl⟩
        have HW2 := Lib.hid (show w2 = w.alloc (.cells #[.string sm, .string st, .string sk, .slice A x.body.length c] 26) by rw [hw2, hw1])
        have HK2 := Lib.hid (show Keeps (fun _ => False) w1 w2 by rw [hw2]; exact Keeps.refl _ _)
        clear hw1 hb1 hr hx hf hsm hst hsk hs1' hs2' hs3' hs4' hsf ht hb hk1 hw2
        obtain ⟨t, htt⟩ : ∃ t, Wire.whole (Wire.text x) = t := ⟨_, rfl⟩
        have HTT := Lib.hid htt
        have htl : (Wire.text x).length ≤ 4100 := by have := front_len HF.out; unfold Wire.text; rw [List.length_append]; omega
        have hgd := whole_good (Wire.text x) (text_b HX.out)
        rw [htt] at hgd
        have HYo := Lib.hid hgd.1
        obtain ⟨y, n, e⟩ := t
        rw [htt] at HQ0
        have HTl := Lib.hid (rfl : (Wire.text x).length = (Wire.text x).length)
        clear htt hgd
        by_cases he : e = 0
        · have heb : (e != 0) = false := by rw [he]; rfl
          by_cases hn : n = ((Wire.text x).length : Int)
          · have hnb : (n != ((Wire.text x).length : Int)) = false := by rw [hn]; simp
            have e1 := str_eq HYo.out.method HX.out.method
            have e2 := str_eq HYo.out.target HX.out.target
            have e3 := str_eq HYo.out.token HX.out.token
            rw [← HSm.out] at e1
            rw [← HSt.out] at e2
            rw [← HSk.out] at e3
            by_cases q1 : y.method = x.method
            · rw [decide_eq_true q1] at e1
              by_cases q2 : y.target = x.target
              · rw [decide_eq_true q2] at e2
                by_cases q3 : y.token = x.token
                · rw [decide_eq_true q3] at e3
                  by_cases q4 : y.body = x.body
                  · have hd : decide (y.body = x.body) = true := decide_eq_true q4
                    have HD := Lib.hid hd
                    have HQ := Lib.hid (show Wire.printF x = (Wire.text x, 0) from HQ0.out.trans (if_pos (by rw [Prod.mk.injEq, Prod.mk.injEq]; exact ⟨ReqP.same.mpr ⟨q1, q2, q3, q4⟩, hn, he⟩)))
                    clear HQ0 he hn q1 q2 q3 q4 hd
                    go_enter Try.func25, Try.ntmps25
                    go_wp2_with (first
                      | (go_at_call 40; rw [← HW.out]; refine Rets.use (dec_c (x.body.length : Int) (by omega) (by omega) w1) ?_; rw [← HSd.out]; rintro v2 w2 ⟨rfl, hk2⟩; have HK2 := Lib.hid hk2; have c3 := hk2.cell HC3.out (fun h => h))
                      | ((with_reducible refine at_ 57 rfl ?_); rw [← HW2.out]; go_must (refine step_str_mrow2 rfl _ _ _ rfl Try.underlying9 Try.underlying22 Try.underlying5 (Wire.front x) (front_b HX.out) (by rw [← HSf.out]; rfl) ?_); intro cc w3 hm3 hk3; have HM3 := Lib.hid hm3; have HK3 := Lib.hid hk3; have HK13 := Lib.hid (HK2.out.trans hk3 (fun _ _ h => h)); have c3 := HK13.out.cell HC3.out (fun h => h); clear hm3)
                      | ((with_reducible refine at_ 60 rfl ?_); go_must (refine step_append_m rfl _ _ _ rfl Try.underlying22 row_byte w2.heap.size cc (Wire.front x) x.body rfl HM3.out (.slice A x.body.length c) rfl (HR.out.kept HK13.out (fun _ _ h => h)) (by have := front_len HF.out; omega) ?_); intro v4 w4 hr4 hk4; have HR4 := Lib.hid (show Rd w4 _ v4 (Wire.text x).length (Disk.bytes8 (Wire.text x)) from hr4); obtain ⟨A4, c4, hv4, _⟩ := hr4.slice; replace hv4 : v4 = .slice A4 (Wire.text x).length c4 := hv4; subst hv4; have HK4 := Lib.hid hk4; clear hr4)
                      | (go_at_call 13; refine Rets.use (wholeW_c (.slice A4 (Wire.text x).length c4) (Wire.text x) HR4.out (by omega) (text_b HX.out)) ?_; rw [HTT.out]; rintro v5 w5 ⟨hk5, u5, rfl, hO5⟩; have HO5 := Lib.hid hO5; obtain ⟨A5, c5, rfl, _⟩ := hO5.slice; have HK5 := Lib.hid hk5; clear hO5)
                      | ((with_reducible refine at_ 6 rfl ?_); go_must (refine step_alloc rfl _ rfl _ zq row_req rfl ?_); intro w6 hb6 hk6 hs6)
                      | ((with_reducible refine at_store 26 (.tmp 6) (.tmp 64) rfl ?_); go_must (refine step_store rfl _ _ _ rfl w5.heap.size 0 (reqC y (.slice A5 y.body.length c5)) _ _ rfl rfl hb6 (by simp [zq, reqC]) (info_reqC _ _) (by simp [reqC, Value.oneCell']) ?_); intro w7 hb7 hk7 hs7; rw [put_whole (by rfl)] at hb7; have HK7 := Lib.hid (fresh_set (Keeps.refl _ w5) hk6 hk7); have HB7 := Lib.hid hb7; have HK57 := Lib.hid (HK5.out.trans HK7.out (fun _ _ h => h)); have HKx := Lib.hid (((HK13.out.mono (S' := fun k => k = w2.heap.size) (fun _ _ h => h.elim)).trans HK4.out (fun _ _ h => h)).trans HK57.out (fun _ _ h => h.elim)); have hz2 : w.heap.size < w2.heap.size := (by have := HK2.out.size; omega); have HK07 := Lib.hid (((HK1.out.mono (S' := fun k => w.heap.size ≤ k) (fun _ _ h => h.elim)).trans HKx.out (fun k _ h => by omega)).mono (S' := fun _ => False) (fun k hk h => by omega)); have d0 := HKx.out.cell HC0.out (fun h => by have h2 : w.heap.size = w2.heap.size := h; omega); have d1 := HKx.out.cell HC1.out (fun h => by have h2 : w.heap.size = w2.heap.size := h; omega); have d2 := HKx.out.cell HC2.out (fun h => by have h2 : w.heap.size = w2.heap.size := h; omega); have d3 := HKx.out.cell HC3.out (fun h => by have h2 : w.heap.size = w2.heap.size := h; omega); have y0 : w7.cell? ⟨w5.heap.size, 0, none⟩ = some (.string (str y.method)) := (cell_of_row w7 _ 0 _ _ _ hb7).trans rfl; have y1 : w7.cell? ⟨w5.heap.size, 1, none⟩ = some (.string (str y.target)) := (cell_of_row w7 _ 1 _ _ _ hb7).trans rfl; have y2 : w7.cell? ⟨w5.heap.size, 2, none⟩ = some (.string (str y.token)) := (cell_of_row w7 _ 2 _ _ _ hb7).trans rfl; have y3 : w7.cell? ⟨w5.heap.size, 3, none⟩ = some (.slice A5 y.body.length c5) := (cell_of_row w7 _ 3 _ _ _ hb7).trans rfl; clear hb7 hb6 hk6 hk7)
                      | (go_at_call 41; refine Rets.use (equal_c (.slice A5 y.body.length c5) (.slice A x.body.length c) y.body x.body HYo.out.body HX.out.body (HO5.out.kept HK7.out (fun _ _ h => h)).rd ((HR.out.lt.mono (ok' := fun k => k < w1.heap.size) (fun k h => h.2)).kept HKx.out (fun k h h' => by have := HK2.out.size; omega))) ?_; rw [HD.out]; rintro _ _ ⟨rfl, rfl⟩))
                    go_ret2
                    rw [HQ.out]
                    exact ⟨HK07.out, .slice A4 (Wire.text x).length c4, rfl, (HR4.out.kept HK57.out (fun _ _ h => h)).mono (fun k h => by have := HK13.out.size; have := HK2.out.size; have := HK3.out.size; omega)⟩
                  · have hd : decide (y.body = x.body) = false := decide_eq_false q4
                    have HD := Lib.hid hd
                    have HQ := Lib.hid (show Wire.printF x = ([], 4) from HQ0.out.trans (if_neg (fun h => q4 (by rw [(Prod.mk.inj h).1]))))
                    clear HQ0 he hn q1 q2 q3 q4 hd
                    go_enter Try.func25, Try.ntmps25
                    go_wp2_with (first
                      | (go_at_call 40; rw [← HW.out]; refine Rets.use (dec_c (x.body.length : Int) (by omega) (by omega) w1) ?_; rw [← HSd.out]; rintro v2 w2 ⟨rfl, hk2⟩; have HK2 := Lib.hid hk2; have c3 := hk2.cell HC3.out (fun h => h))
                      | ((with_reducible refine at_ 57 rfl ?_); rw [← HW2.out]; go_must (refine step_str_mrow2 rfl _ _ _ rfl Try.underlying9 Try.underlying22 Try.underlying5 (Wire.front x) (front_b HX.out) (by rw [← HSf.out]; rfl) ?_); intro cc w3 hm3 hk3; have HM3 := Lib.hid hm3; have HK3 := Lib.hid hk3; have HK13 := Lib.hid (HK2.out.trans hk3 (fun _ _ h => h)); have c3 := HK13.out.cell HC3.out (fun h => h); clear hm3)
                      | ((with_reducible refine at_ 60 rfl ?_); go_must (refine step_append_m rfl _ _ _ rfl Try.underlying22 row_byte w2.heap.size cc (Wire.front x) x.body rfl HM3.out (.slice A x.body.length c) rfl (HR.out.kept HK13.out (fun _ _ h => h)) (by have := front_len HF.out; omega) ?_); intro v4 w4 hr4 hk4; have HR4 := Lib.hid (show Rd w4 _ v4 (Wire.text x).length (Disk.bytes8 (Wire.text x)) from hr4); obtain ⟨A4, c4, hv4, _⟩ := hr4.slice; replace hv4 : v4 = .slice A4 (Wire.text x).length c4 := hv4; subst hv4; have HK4 := Lib.hid hk4; clear hr4)
                      | (go_at_call 13; refine Rets.use (wholeW_c (.slice A4 (Wire.text x).length c4) (Wire.text x) HR4.out (by omega) (text_b HX.out)) ?_; rw [HTT.out]; rintro v5 w5 ⟨hk5, u5, rfl, hO5⟩; have HO5 := Lib.hid hO5; obtain ⟨A5, c5, rfl, _⟩ := hO5.slice; have HK5 := Lib.hid hk5; clear hO5)
                      | ((with_reducible refine at_ 6 rfl ?_); go_must (refine step_alloc rfl _ rfl _ zq row_req rfl ?_); intro w6 hb6 hk6 hs6)
                      | ((with_reducible refine at_store 26 (.tmp 6) (.tmp 64) rfl ?_); go_must (refine step_store rfl _ _ _ rfl w5.heap.size 0 (reqC y (.slice A5 y.body.length c5)) _ _ rfl rfl hb6 (by simp [zq, reqC]) (info_reqC _ _) (by simp [reqC, Value.oneCell']) ?_); intro w7 hb7 hk7 hs7; rw [put_whole (by rfl)] at hb7; have HK7 := Lib.hid (fresh_set (Keeps.refl _ w5) hk6 hk7); have HB7 := Lib.hid hb7; have HK57 := Lib.hid (HK5.out.trans HK7.out (fun _ _ h => h)); have HKx := Lib.hid (((HK13.out.mono (S' := fun k => k = w2.heap.size) (fun _ _ h => h.elim)).trans HK4.out (fun _ _ h => h)).trans HK57.out (fun _ _ h => h.elim)); have hz2 : w.heap.size < w2.heap.size := (by have := HK2.out.size; omega); have HK07 := Lib.hid (((HK1.out.mono (S' := fun k => w.heap.size ≤ k) (fun _ _ h => h.elim)).trans HKx.out (fun k _ h => by omega)).mono (S' := fun _ => False) (fun k hk h => by omega)); have d0 := HKx.out.cell HC0.out (fun h => by have h2 : w.heap.size = w2.heap.size := h; omega); have d1 := HKx.out.cell HC1.out (fun h => by have h2 : w.heap.size = w2.heap.size := h; omega); have d2 := HKx.out.cell HC2.out (fun h => by have h2 : w.heap.size = w2.heap.size := h; omega); have d3 := HKx.out.cell HC3.out (fun h => by have h2 : w.heap.size = w2.heap.size := h; omega); have y0 : w7.cell? ⟨w5.heap.size, 0, none⟩ = some (.string (str y.method)) := (cell_of_row w7 _ 0 _ _ _ hb7).trans rfl; have y1 : w7.cell? ⟨w5.heap.size, 1, none⟩ = some (.string (str y.target)) := (cell_of_row w7 _ 1 _ _ _ hb7).trans rfl; have y2 : w7.cell? ⟨w5.heap.size, 2, none⟩ = some (.string (str y.token)) := (cell_of_row w7 _ 2 _ _ _ hb7).trans rfl; have y3 : w7.cell? ⟨w5.heap.size, 3, none⟩ = some (.slice A5 y.body.length c5) := (cell_of_row w7 _ 3 _ _ _ hb7).trans rfl; clear hb7 hb6 hk6 hk7)
                      | (go_at_call 41; refine Rets.use (equal_c (.slice A5 y.body.length c5) (.slice A x.body.length c) y.body x.body HYo.out.body HX.out.body (HO5.out.kept HK7.out (fun _ _ h => h)).rd ((HR.out.lt.mono (ok' := fun k => k < w1.heap.size) (fun k h => h.2)).kept HKx.out (fun k h h' => by have := HK2.out.size; omega))) ?_; rw [HD.out]; rintro _ _ ⟨rfl, rfl⟩))
                    go_ret2
                    rw [HQ.out]
                    exact ⟨HK07.out, .slice none 0 0, rfl, Rd.nil _ _⟩
                · rw [decide_eq_false q3] at e3
                  have HQ := Lib.hid (show Wire.printF x = ([], 4) from HQ0.out.trans (if_neg (fun h => q3 (by rw [(Prod.mk.inj h).1]))))
                  clear HQ0 he hn q1 q2 q3
                  go_enter Try.func25, Try.ntmps25
                  go_wp2_with (first
                    | (go_at_call 40; rw [← HW.out]; refine Rets.use (dec_c (x.body.length : Int) (by omega) (by omega) w1) ?_; rw [← HSd.out]; rintro v2 w2 ⟨rfl, hk2⟩; have HK2 := Lib.hid hk2; have c3 := hk2.cell HC3.out (fun h => h))
                    | ((with_reducible refine at_ 57 rfl ?_); rw [← HW2.out]; go_must (refine step_str_mrow2 rfl _ _ _ rfl Try.underlying9 Try.underlying22 Try.underlying5 (Wire.front x) (front_b HX.out) (by rw [← HSf.out]; rfl) ?_); intro cc w3 hm3 hk3; have HM3 := Lib.hid hm3; have HK3 := Lib.hid hk3; have HK13 := Lib.hid (HK2.out.trans hk3 (fun _ _ h => h)); have c3 := HK13.out.cell HC3.out (fun h => h); clear hm3)
                    | ((with_reducible refine at_ 60 rfl ?_); go_must (refine step_append_m rfl _ _ _ rfl Try.underlying22 row_byte w2.heap.size cc (Wire.front x) x.body rfl HM3.out (.slice A x.body.length c) rfl (HR.out.kept HK13.out (fun _ _ h => h)) (by have := front_len HF.out; omega) ?_); intro v4 w4 hr4 hk4; have HR4 := Lib.hid (show Rd w4 _ v4 (Wire.text x).length (Disk.bytes8 (Wire.text x)) from hr4); obtain ⟨A4, c4, hv4, _⟩ := hr4.slice; replace hv4 : v4 = .slice A4 (Wire.text x).length c4 := hv4; subst hv4; have HK4 := Lib.hid hk4; clear hr4)
                    | (go_at_call 13; refine Rets.use (wholeW_c (.slice A4 (Wire.text x).length c4) (Wire.text x) HR4.out (by omega) (text_b HX.out)) ?_; rw [HTT.out]; rintro v5 w5 ⟨hk5, u5, rfl, hO5⟩; have HO5 := Lib.hid hO5; obtain ⟨A5, c5, rfl, _⟩ := hO5.slice; have HK5 := Lib.hid hk5; clear hO5)
                    | ((with_reducible refine at_ 6 rfl ?_); go_must (refine step_alloc rfl _ rfl _ zq row_req rfl ?_); intro w6 hb6 hk6 hs6)
                    | ((with_reducible refine at_store 26 (.tmp 6) (.tmp 64) rfl ?_); go_must (refine step_store rfl _ _ _ rfl w5.heap.size 0 (reqC y (.slice A5 y.body.length c5)) _ _ rfl rfl hb6 (by simp [zq, reqC]) (info_reqC _ _) (by simp [reqC, Value.oneCell']) ?_); intro w7 hb7 hk7 hs7; rw [put_whole (by rfl)] at hb7; have HK7 := Lib.hid (fresh_set (Keeps.refl _ w5) hk6 hk7); have HB7 := Lib.hid hb7; have HK57 := Lib.hid (HK5.out.trans HK7.out (fun _ _ h => h)); have HKx := Lib.hid (((HK13.out.mono (S' := fun k => k = w2.heap.size) (fun _ _ h => h.elim)).trans HK4.out (fun _ _ h => h)).trans HK57.out (fun _ _ h => h.elim)); have hz2 : w.heap.size < w2.heap.size := (by have := HK2.out.size; omega); have HK07 := Lib.hid (((HK1.out.mono (S' := fun k => w.heap.size ≤ k) (fun _ _ h => h.elim)).trans HKx.out (fun k _ h => by omega)).mono (S' := fun _ => False) (fun k hk h => by omega)); have d0 := HKx.out.cell HC0.out (fun h => by have h2 : w.heap.size = w2.heap.size := h; omega); have d1 := HKx.out.cell HC1.out (fun h => by have h2 : w.heap.size = w2.heap.size := h; omega); have d2 := HKx.out.cell HC2.out (fun h => by have h2 : w.heap.size = w2.heap.size := h; omega); have d3 := HKx.out.cell HC3.out (fun h => by have h2 : w.heap.size = w2.heap.size := h; omega); have y0 : w7.cell? ⟨w5.heap.size, 0, none⟩ = some (.string (str y.method)) := (cell_of_row w7 _ 0 _ _ _ hb7).trans rfl; have y1 : w7.cell? ⟨w5.heap.size, 1, none⟩ = some (.string (str y.target)) := (cell_of_row w7 _ 1 _ _ _ hb7).trans rfl; have y2 : w7.cell? ⟨w5.heap.size, 2, none⟩ = some (.string (str y.token)) := (cell_of_row w7 _ 2 _ _ _ hb7).trans rfl; have y3 : w7.cell? ⟨w5.heap.size, 3, none⟩ = some (.slice A5 y.body.length c5) := (cell_of_row w7 _ 3 _ _ _ hb7).trans rfl; clear hb7 hb6 hk6 hk7)
                    | (go_at_call 41; refine Rets.use (equal_c (.slice A5 y.body.length c5) (.slice A x.body.length c) y.body x.body HYo.out.body HX.out.body (HO5.out.kept HK7.out (fun _ _ h => h)).rd ((HR.out.lt.mono (ok' := fun k => k < w1.heap.size) (fun k h => h.2)).kept HKx.out (fun k h h' => by have := HK2.out.size; omega))) ?_; rw [HD.out]; rintro _ _ ⟨rfl, rfl⟩))
                  go_ret2
                  rw [HQ.out]
                  exact ⟨HK07.out, .slice none 0 0, rfl, Rd.nil _ _⟩
              · rw [decide_eq_false q2] at e2
                have HQ := Lib.hid (show Wire.printF x = ([], 4) from HQ0.out.trans (if_neg (fun h => q2 (by rw [(Prod.mk.inj h).1]))))
                clear HQ0 he hn q1 q2 e3
                go_enter Try.func25, Try.ntmps25
                go_wp2_with (first
                  | (go_at_call 40; rw [← HW.out]; refine Rets.use (dec_c (x.body.length : Int) (by omega) (by omega) w1) ?_; rw [← HSd.out]; rintro v2 w2 ⟨rfl, hk2⟩; have HK2 := Lib.hid hk2; have c3 := hk2.cell HC3.out (fun h => h))
                  | ((with_reducible refine at_ 57 rfl ?_); rw [← HW2.out]; go_must (refine step_str_mrow2 rfl _ _ _ rfl Try.underlying9 Try.underlying22 Try.underlying5 (Wire.front x) (front_b HX.out) (by rw [← HSf.out]; rfl) ?_); intro cc w3 hm3 hk3; have HM3 := Lib.hid hm3; have HK3 := Lib.hid hk3; have HK13 := Lib.hid (HK2.out.trans hk3 (fun _ _ h => h)); have c3 := HK13.out.cell HC3.out (fun h => h); clear hm3)
                  | ((with_reducible refine at_ 60 rfl ?_); go_must (refine step_append_m rfl _ _ _ rfl Try.underlying22 row_byte w2.heap.size cc (Wire.front x) x.body rfl HM3.out (.slice A x.body.length c) rfl (HR.out.kept HK13.out (fun _ _ h => h)) (by have := front_len HF.out; omega) ?_); intro v4 w4 hr4 hk4; have HR4 := Lib.hid (show Rd w4 _ v4 (Wire.text x).length (Disk.bytes8 (Wire.text x)) from hr4); obtain ⟨A4, c4, hv4, _⟩ := hr4.slice; replace hv4 : v4 = .slice A4 (Wire.text x).length c4 := hv4; subst hv4; have HK4 := Lib.hid hk4; clear hr4)
                  | (go_at_call 13; refine Rets.use (wholeW_c (.slice A4 (Wire.text x).length c4) (Wire.text x) HR4.out (by omega) (text_b HX.out)) ?_; rw [HTT.out]; rintro v5 w5 ⟨hk5, u5, rfl, hO5⟩; have HO5 := Lib.hid hO5; obtain ⟨A5, c5, rfl, _⟩ := hO5.slice; have HK5 := Lib.hid hk5; clear hO5)
                  | ((with_reducible refine at_ 6 rfl ?_); go_must (refine step_alloc rfl _ rfl _ zq row_req rfl ?_); intro w6 hb6 hk6 hs6)
                  | ((with_reducible refine at_store 26 (.tmp 6) (.tmp 64) rfl ?_); go_must (refine step_store rfl _ _ _ rfl w5.heap.size 0 (reqC y (.slice A5 y.body.length c5)) _ _ rfl rfl hb6 (by simp [zq, reqC]) (info_reqC _ _) (by simp [reqC, Value.oneCell']) ?_); intro w7 hb7 hk7 hs7; rw [put_whole (by rfl)] at hb7; have HK7 := Lib.hid (fresh_set (Keeps.refl _ w5) hk6 hk7); have HB7 := Lib.hid hb7; have HK57 := Lib.hid (HK5.out.trans HK7.out (fun _ _ h => h)); have HKx := Lib.hid (((HK13.out.mono (S' := fun k => k = w2.heap.size) (fun _ _ h => h.elim)).trans HK4.out (fun _ _ h => h)).trans HK57.out (fun _ _ h => h.elim)); have hz2 : w.heap.size < w2.heap.size := (by have := HK2.out.size; omega); have HK07 := Lib.hid (((HK1.out.mono (S' := fun k => w.heap.size ≤ k) (fun _ _ h => h.elim)).trans HKx.out (fun k _ h => by omega)).mono (S' := fun _ => False) (fun k hk h => by omega)); have d0 := HKx.out.cell HC0.out (fun h => by have h2 : w.heap.size = w2.heap.size := h; omega); have d1 := HKx.out.cell HC1.out (fun h => by have h2 : w.heap.size = w2.heap.size := h; omega); have d2 := HKx.out.cell HC2.out (fun h => by have h2 : w.heap.size = w2.heap.size := h; omega); have d3 := HKx.out.cell HC3.out (fun h => by have h2 : w.heap.size = w2.heap.size := h; omega); have y0 : w7.cell? ⟨w5.heap.size, 0, none⟩ = some (.string (str y.method)) := (cell_of_row w7 _ 0 _ _ _ hb7).trans rfl; have y1 : w7.cell? ⟨w5.heap.size, 1, none⟩ = some (.string (str y.target)) := (cell_of_row w7 _ 1 _ _ _ hb7).trans rfl; have y2 : w7.cell? ⟨w5.heap.size, 2, none⟩ = some (.string (str y.token)) := (cell_of_row w7 _ 2 _ _ _ hb7).trans rfl; have y3 : w7.cell? ⟨w5.heap.size, 3, none⟩ = some (.slice A5 y.body.length c5) := (cell_of_row w7 _ 3 _ _ _ hb7).trans rfl; clear hb7 hb6 hk6 hk7)
                  | (go_at_call 41; refine Rets.use (equal_c (.slice A5 y.body.length c5) (.slice A x.body.length c) y.body x.body HYo.out.body HX.out.body (HO5.out.kept HK7.out (fun _ _ h => h)).rd ((HR.out.lt.mono (ok' := fun k => k < w1.heap.size) (fun k h => h.2)).kept HKx.out (fun k h h' => by have := HK2.out.size; omega))) ?_; rw [HD.out]; rintro _ _ ⟨rfl, rfl⟩))
                go_ret2
                rw [HQ.out]
                exact ⟨HK07.out, .slice none 0 0, rfl, Rd.nil _ _⟩
            · rw [decide_eq_false q1] at e1
              have HQ := Lib.hid (show Wire.printF x = ([], 4) from HQ0.out.trans (if_neg (fun h => q1 (by rw [(Prod.mk.inj h).1]))))
              clear HQ0 he hn q1 e2 e3
              go_enter Try.func25, Try.ntmps25
              go_wp2_with (first
                | (go_at_call 40; rw [← HW.out]; refine Rets.use (dec_c (x.body.length : Int) (by omega) (by omega) w1) ?_; rw [← HSd.out]; rintro v2 w2 ⟨rfl, hk2⟩; have HK2 := Lib.hid hk2; have c3 := hk2.cell HC3.out (fun h => h))
                | ((with_reducible refine at_ 57 rfl ?_); rw [← HW2.out]; go_must (refine step_str_mrow2 rfl _ _ _ rfl Try.underlying9 Try.underlying22 Try.underlying5 (Wire.front x) (front_b HX.out) (by rw [← HSf.out]; rfl) ?_); intro cc w3 hm3 hk3; have HM3 := Lib.hid hm3; have HK3 := Lib.hid hk3; have HK13 := Lib.hid (HK2.out.trans hk3 (fun _ _ h => h)); have c3 := HK13.out.cell HC3.out (fun h => h); clear hm3)
                | ((with_reducible refine at_ 60 rfl ?_); go_must (refine step_append_m rfl _ _ _ rfl Try.underlying22 row_byte w2.heap.size cc (Wire.front x) x.body rfl HM3.out (.slice A x.body.length c) rfl (HR.out.kept HK13.out (fun _ _ h => h)) (by have := front_len HF.out; omega) ?_); intro v4 w4 hr4 hk4; have HR4 := Lib.hid (show Rd w4 _ v4 (Wire.text x).length (Disk.bytes8 (Wire.text x)) from hr4); obtain ⟨A4, c4, hv4, _⟩ := hr4.slice; replace hv4 : v4 = .slice A4 (Wire.text x).length c4 := hv4; subst hv4; have HK4 := Lib.hid hk4; clear hr4)
                | (go_at_call 13; refine Rets.use (wholeW_c (.slice A4 (Wire.text x).length c4) (Wire.text x) HR4.out (by omega) (text_b HX.out)) ?_; rw [HTT.out]; rintro v5 w5 ⟨hk5, u5, rfl, hO5⟩; have HO5 := Lib.hid hO5; obtain ⟨A5, c5, rfl, _⟩ := hO5.slice; have HK5 := Lib.hid hk5; clear hO5)
                | ((with_reducible refine at_ 6 rfl ?_); go_must (refine step_alloc rfl _ rfl _ zq row_req rfl ?_); intro w6 hb6 hk6 hs6)
                | ((with_reducible refine at_store 26 (.tmp 6) (.tmp 64) rfl ?_); go_must (refine step_store rfl _ _ _ rfl w5.heap.size 0 (reqC y (.slice A5 y.body.length c5)) _ _ rfl rfl hb6 (by simp [zq, reqC]) (info_reqC _ _) (by simp [reqC, Value.oneCell']) ?_); intro w7 hb7 hk7 hs7; rw [put_whole (by rfl)] at hb7; have HK7 := Lib.hid (fresh_set (Keeps.refl _ w5) hk6 hk7); have HB7 := Lib.hid hb7; have HK57 := Lib.hid (HK5.out.trans HK7.out (fun _ _ h => h)); have HKx := Lib.hid (((HK13.out.mono (S' := fun k => k = w2.heap.size) (fun _ _ h => h.elim)).trans HK4.out (fun _ _ h => h)).trans HK57.out (fun _ _ h => h.elim)); have hz2 : w.heap.size < w2.heap.size := (by have := HK2.out.size; omega); have HK07 := Lib.hid (((HK1.out.mono (S' := fun k => w.heap.size ≤ k) (fun _ _ h => h.elim)).trans HKx.out (fun k _ h => by omega)).mono (S' := fun _ => False) (fun k hk h => by omega)); have d0 := HKx.out.cell HC0.out (fun h => by have h2 : w.heap.size = w2.heap.size := h; omega); have d1 := HKx.out.cell HC1.out (fun h => by have h2 : w.heap.size = w2.heap.size := h; omega); have d2 := HKx.out.cell HC2.out (fun h => by have h2 : w.heap.size = w2.heap.size := h; omega); have d3 := HKx.out.cell HC3.out (fun h => by have h2 : w.heap.size = w2.heap.size := h; omega); have y0 : w7.cell? ⟨w5.heap.size, 0, none⟩ = some (.string (str y.method)) := (cell_of_row w7 _ 0 _ _ _ hb7).trans rfl; have y1 : w7.cell? ⟨w5.heap.size, 1, none⟩ = some (.string (str y.target)) := (cell_of_row w7 _ 1 _ _ _ hb7).trans rfl; have y2 : w7.cell? ⟨w5.heap.size, 2, none⟩ = some (.string (str y.token)) := (cell_of_row w7 _ 2 _ _ _ hb7).trans rfl; have y3 : w7.cell? ⟨w5.heap.size, 3, none⟩ = some (.slice A5 y.body.length c5) := (cell_of_row w7 _ 3 _ _ _ hb7).trans rfl; clear hb7 hb6 hk6 hk7)
                | (go_at_call 41; refine Rets.use (equal_c (.slice A5 y.body.length c5) (.slice A x.body.length c) y.body x.body HYo.out.body HX.out.body (HO5.out.kept HK7.out (fun _ _ h => h)).rd ((HR.out.lt.mono (ok' := fun k => k < w1.heap.size) (fun k h => h.2)).kept HKx.out (fun k h h' => by have := HK2.out.size; omega))) ?_; rw [HD.out]; rintro _ _ ⟨rfl, rfl⟩))
              go_ret2
              rw [HQ.out]
              exact ⟨HK07.out, .slice none 0 0, rfl, Rd.nil _ _⟩
          · have hnb : (n != ((Wire.text x).length : Int)) = true := by simpa using hn
            have HQ := Lib.hid (show Wire.printF x = ([], 4) from HQ0.out.trans (if_neg (fun h => hn (Prod.mk.inj (Prod.mk.inj h).2).1)))
            clear HQ0 he hn
            go_enter Try.func25, Try.ntmps25
            go_wp2_with (first
              | (go_at_call 40; rw [← HW.out]; refine Rets.use (dec_c (x.body.length : Int) (by omega) (by omega) w1) ?_; rw [← HSd.out]; rintro v2 w2 ⟨rfl, hk2⟩; have HK2 := Lib.hid hk2; have c3 := hk2.cell HC3.out (fun h => h))
              | ((with_reducible refine at_ 57 rfl ?_); rw [← HW2.out]; go_must (refine step_str_mrow2 rfl _ _ _ rfl Try.underlying9 Try.underlying22 Try.underlying5 (Wire.front x) (front_b HX.out) (by rw [← HSf.out]; rfl) ?_); intro cc w3 hm3 hk3; have HM3 := Lib.hid hm3; have HK3 := Lib.hid hk3; have HK13 := Lib.hid (HK2.out.trans hk3 (fun _ _ h => h)); have c3 := HK13.out.cell HC3.out (fun h => h); clear hm3)
              | ((with_reducible refine at_ 60 rfl ?_); go_must (refine step_append_m rfl _ _ _ rfl Try.underlying22 row_byte w2.heap.size cc (Wire.front x) x.body rfl HM3.out (.slice A x.body.length c) rfl (HR.out.kept HK13.out (fun _ _ h => h)) (by have := front_len HF.out; omega) ?_); intro v4 w4 hr4 hk4; have HR4 := Lib.hid (show Rd w4 _ v4 (Wire.text x).length (Disk.bytes8 (Wire.text x)) from hr4); obtain ⟨A4, c4, hv4, _⟩ := hr4.slice; replace hv4 : v4 = .slice A4 (Wire.text x).length c4 := hv4; subst hv4; have HK4 := Lib.hid hk4; clear hr4)
              | (go_at_call 13; refine Rets.use (wholeW_c (.slice A4 (Wire.text x).length c4) (Wire.text x) HR4.out (by omega) (text_b HX.out)) ?_; rw [HTT.out]; rintro v5 w5 ⟨hk5, u5, rfl, hO5⟩; have HO5 := Lib.hid hO5; obtain ⟨A5, c5, rfl, _⟩ := hO5.slice; have HK5 := Lib.hid hk5; clear hO5)
              | ((with_reducible refine at_ 6 rfl ?_); go_must (refine step_alloc rfl _ rfl _ zq row_req rfl ?_); intro w6 hb6 hk6 hs6)
              | ((with_reducible refine at_store 26 (.tmp 6) (.tmp 64) rfl ?_); go_must (refine step_store rfl _ _ _ rfl w5.heap.size 0 (reqC y (.slice A5 y.body.length c5)) _ _ rfl rfl hb6 (by simp [zq, reqC]) (info_reqC _ _) (by simp [reqC, Value.oneCell']) ?_); intro w7 hb7 hk7 hs7; rw [put_whole (by rfl)] at hb7; have HK7 := Lib.hid (fresh_set (Keeps.refl _ w5) hk6 hk7); have HB7 := Lib.hid hb7; have HK57 := Lib.hid (HK5.out.trans HK7.out (fun _ _ h => h)); have HKx := Lib.hid (((HK13.out.mono (S' := fun k => k = w2.heap.size) (fun _ _ h => h.elim)).trans HK4.out (fun _ _ h => h)).trans HK57.out (fun _ _ h => h.elim)); have hz2 : w.heap.size < w2.heap.size := (by have := HK2.out.size; omega); have HK07 := Lib.hid (((HK1.out.mono (S' := fun k => w.heap.size ≤ k) (fun _ _ h => h.elim)).trans HKx.out (fun k _ h => by omega)).mono (S' := fun _ => False) (fun k hk h => by omega)); have d0 := HKx.out.cell HC0.out (fun h => by have h2 : w.heap.size = w2.heap.size := h; omega); have d1 := HKx.out.cell HC1.out (fun h => by have h2 : w.heap.size = w2.heap.size := h; omega); have d2 := HKx.out.cell HC2.out (fun h => by have h2 : w.heap.size = w2.heap.size := h; omega); have d3 := HKx.out.cell HC3.out (fun h => by have h2 : w.heap.size = w2.heap.size := h; omega); have y0 : w7.cell? ⟨w5.heap.size, 0, none⟩ = some (.string (str y.method)) := (cell_of_row w7 _ 0 _ _ _ hb7).trans rfl; have y1 : w7.cell? ⟨w5.heap.size, 1, none⟩ = some (.string (str y.target)) := (cell_of_row w7 _ 1 _ _ _ hb7).trans rfl; have y2 : w7.cell? ⟨w5.heap.size, 2, none⟩ = some (.string (str y.token)) := (cell_of_row w7 _ 2 _ _ _ hb7).trans rfl; have y3 : w7.cell? ⟨w5.heap.size, 3, none⟩ = some (.slice A5 y.body.length c5) := (cell_of_row w7 _ 3 _ _ _ hb7).trans rfl; clear hb7 hb6 hk6 hk7)
              | (go_at_call 41; refine Rets.use (equal_c (.slice A5 y.body.length c5) (.slice A x.body.length c) y.body x.body HYo.out.body HX.out.body (HO5.out.kept HK7.out (fun _ _ h => h)).rd ((HR.out.lt.mono (ok' := fun k => k < w1.heap.size) (fun k h => h.2)).kept HKx.out (fun k h h' => by have := HK2.out.size; omega))) ?_; rw [HD.out]; rintro _ _ ⟨rfl, rfl⟩))
            go_ret2
            rw [HQ.out]
            exact ⟨HK07.out, .slice none 0 0, rfl, Rd.nil _ _⟩
        · have heb : (e != 0) = true := by simpa using he
          have HQ := Lib.hid (show Wire.printF x = ([], 4) from HQ0.out.trans (if_neg (fun h => he (Prod.mk.inj (Prod.mk.inj h).2).2)))
          clear HQ0 he
          go_enter Try.func25, Try.ntmps25
          go_wp2_with (first
            | (go_at_call 40; rw [← HW.out]; refine Rets.use (dec_c (x.body.length : Int) (by omega) (by omega) w1) ?_; rw [← HSd.out]; rintro v2 w2 ⟨rfl, hk2⟩; have HK2 := Lib.hid hk2; have c3 := hk2.cell HC3.out (fun h => h))
            | ((with_reducible refine at_ 57 rfl ?_); rw [← HW2.out]; go_must (refine step_str_mrow2 rfl _ _ _ rfl Try.underlying9 Try.underlying22 Try.underlying5 (Wire.front x) (front_b HX.out) (by rw [← HSf.out]; rfl) ?_); intro cc w3 hm3 hk3; have HM3 := Lib.hid hm3; have HK3 := Lib.hid hk3; have HK13 := Lib.hid (HK2.out.trans hk3 (fun _ _ h => h)); have c3 := HK13.out.cell HC3.out (fun h => h); clear hm3)
            | ((with_reducible refine at_ 60 rfl ?_); go_must (refine step_append_m rfl _ _ _ rfl Try.underlying22 row_byte w2.heap.size cc (Wire.front x) x.body rfl HM3.out (.slice A x.body.length c) rfl (HR.out.kept HK13.out (fun _ _ h => h)) (by have := front_len HF.out; omega) ?_); intro v4 w4 hr4 hk4; have HR4 := Lib.hid (show Rd w4 _ v4 (Wire.text x).length (Disk.bytes8 (Wire.text x)) from hr4); obtain ⟨A4, c4, hv4, _⟩ := hr4.slice; replace hv4 : v4 = .slice A4 (Wire.text x).length c4 := hv4; subst hv4; have HK4 := Lib.hid hk4; clear hr4)
            | (go_at_call 13; refine Rets.use (wholeW_c (.slice A4 (Wire.text x).length c4) (Wire.text x) HR4.out (by omega) (text_b HX.out)) ?_; rw [HTT.out]; rintro v5 w5 ⟨hk5, u5, rfl, hO5⟩; have HO5 := Lib.hid hO5; obtain ⟨A5, c5, rfl, _⟩ := hO5.slice; have HK5 := Lib.hid hk5; clear hO5)
            | ((with_reducible refine at_ 6 rfl ?_); go_must (refine step_alloc rfl _ rfl _ zq row_req rfl ?_); intro w6 hb6 hk6 hs6)
            | ((with_reducible refine at_store 26 (.tmp 6) (.tmp 64) rfl ?_); go_must (refine step_store rfl _ _ _ rfl w5.heap.size 0 (reqC y (.slice A5 y.body.length c5)) _ _ rfl rfl hb6 (by simp [zq, reqC]) (info_reqC _ _) (by simp [reqC, Value.oneCell']) ?_); intro w7 hb7 hk7 hs7; rw [put_whole (by rfl)] at hb7; have HK7 := Lib.hid (fresh_set (Keeps.refl _ w5) hk6 hk7); have HB7 := Lib.hid hb7; have HK57 := Lib.hid (HK5.out.trans HK7.out (fun _ _ h => h)); have HKx := Lib.hid (((HK13.out.mono (S' := fun k => k = w2.heap.size) (fun _ _ h => h.elim)).trans HK4.out (fun _ _ h => h)).trans HK57.out (fun _ _ h => h.elim)); have hz2 : w.heap.size < w2.heap.size := (by have := HK2.out.size; omega); have HK07 := Lib.hid (((HK1.out.mono (S' := fun k => w.heap.size ≤ k) (fun _ _ h => h.elim)).trans HKx.out (fun k _ h => by omega)).mono (S' := fun _ => False) (fun k hk h => by omega)); have d0 := HKx.out.cell HC0.out (fun h => by have h2 : w.heap.size = w2.heap.size := h; omega); have d1 := HKx.out.cell HC1.out (fun h => by have h2 : w.heap.size = w2.heap.size := h; omega); have d2 := HKx.out.cell HC2.out (fun h => by have h2 : w.heap.size = w2.heap.size := h; omega); have d3 := HKx.out.cell HC3.out (fun h => by have h2 : w.heap.size = w2.heap.size := h; omega); have y0 : w7.cell? ⟨w5.heap.size, 0, none⟩ = some (.string (str y.method)) := (cell_of_row w7 _ 0 _ _ _ hb7).trans rfl; have y1 : w7.cell? ⟨w5.heap.size, 1, none⟩ = some (.string (str y.target)) := (cell_of_row w7 _ 1 _ _ _ hb7).trans rfl; have y2 : w7.cell? ⟨w5.heap.size, 2, none⟩ = some (.string (str y.token)) := (cell_of_row w7 _ 2 _ _ _ hb7).trans rfl; have y3 : w7.cell? ⟨w5.heap.size, 3, none⟩ = some (.slice A5 y.body.length c5) := (cell_of_row w7 _ 3 _ _ _ hb7).trans rfl; clear hb7 hb6 hk6 hk7)
            | (go_at_call 41; refine Rets.use (equal_c (.slice A5 y.body.length c5) (.slice A x.body.length c) y.body x.body HYo.out.body HX.out.body (HO5.out.kept HK7.out (fun _ _ h => h)).rd ((HR.out.lt.mono (ok' := fun k => k < w1.heap.size) (fun k h => h.2)).kept HKx.out (fun k h h' => by have := HK2.out.size; omega))) ?_; rw [HD.out]; rintro _ _ ⟨rfl, rfl⟩))
          go_ret2
          rw [HQ.out]
          exact ⟨HK07.out, .slice none 0 0, rfl, Rd.nil _ _⟩
      · have hbl : 0 < x.body.length := by cases h : x.body with | nil => exact (hb h).elim | cons => simp
        obtain ⟨sd, hsd⟩ : ∃ s, s = str (decF (x.body.length : Int)) := ⟨_, rfl⟩
        obtain ⟨s8, hs8'⟩ : ∃ s, s = str (Wire.kL ++ decF (x.body.length : Int)) := ⟨_, rfl⟩
        obtain ⟨s9, hs9'⟩ : ∃ s, s = str ((Wire.kL ++ decF (x.body.length : Int)) ++ Wire.crlf) := ⟨_, rfl⟩
        obtain ⟨s5, hs5'⟩ : ∃ s, s = str (Wire.withL x) := ⟨_, rfl⟩
        have hdl := dec_len (x.body.length : Int)
        have b1 : ∀ w', (Op.stringOp .add ⟨#[67, 111, 110, 116, 101, 110, 116, 45, 76, 101, 110, 103, 116, 104, 58, 32]⟩ sd).run Try.prog w' = .ok (.string s8) w' := fun w' => by rw [hs8', hsd]; exact add_str (a := Wire.kL) (by simp only [Wire.kL, List.length_cons, List.length_nil]; omega) w'
        have b2 : ∀ w', (Op.stringOp .add s8 ⟨#[13, 10]⟩).run Try.prog w' = .ok (.string s9) w' := fun w' => by rw [hs8', hs9']; exact add_str (b := Wire.crlf) (by simp only [Wire.kL, Wire.crlf, List.length_append, List.length_cons, List.length_nil]; omega) w'
        have b3 : ∀ w', (Op.stringOp .add s4 s9).run Try.prog w' = .ok (.string s5) w' := fun w' => by rw [hs4', hs9', hs5']; unfold Wire.withL; rw [if_neg hb]; exact add_str (by simp only [Wire.kL, Wire.crlf, List.length_append, List.length_cons, List.length_nil]; omega) w'
        have hll : (Wire.withL x).length ≤ 1800 := by unfold Wire.withL Wire.kL Wire.crlf; rw [if_neg hb]; simp only [List.length_append, List.length_cons, List.length_nil]; omega
        have ae : ∀ w', (Op.stringOp .add s5 ⟨#[13, 10]⟩).run Try.prog w' = .ok (.string sf) w' := fun w' => by rw [hs5', hsf]; exact add_str (b := Wire.crlf) (by simp only [Wire.crlf, List.length_cons, List.length_nil]; omega) w'
        have HSd := Lib.hid hsd
        clear hw1 hb1 hr hx hf hsm hst hsk hs1' hs2' hs3' hs4' hsf hsd hs8' hs9' hs5' ht hb hk1 hdl
        obtain ⟨t, htt⟩ : ∃ t, Wire.whole (Wire.text x) = t := ⟨_, rfl⟩
        have HTT := Lib.hid htt
        have htl : (Wire.text x).length ≤ 4100 := by have := front_len HF.out; unfold Wire.text; rw [List.length_append]; omega
        have hgd := whole_good (Wire.text x) (text_b HX.out)
        rw [htt] at hgd
        have HYo := Lib.hid hgd.1
        obtain ⟨y, n, e⟩ := t
        rw [htt] at HQ0
        have HTl := Lib.hid (rfl : (Wire.text x).length = (Wire.text x).length)
        clear htt hgd
        by_cases he : e = 0
        · have heb : (e != 0) = false := by rw [he]; rfl
          by_cases hn : n = ((Wire.text x).length : Int)
          · have hnb : (n != ((Wire.text x).length : Int)) = false := by rw [hn]; simp
            have e1 := str_eq HYo.out.method HX.out.method
            have e2 := str_eq HYo.out.target HX.out.target
            have e3 := str_eq HYo.out.token HX.out.token
            rw [← HSm.out] at e1
            rw [← HSt.out] at e2
            rw [← HSk.out] at e3
            by_cases q1 : y.method = x.method
            · rw [decide_eq_true q1] at e1
              by_cases q2 : y.target = x.target
              · rw [decide_eq_true q2] at e2
                by_cases q3 : y.token = x.token
                · rw [decide_eq_true q3] at e3
                  by_cases q4 : y.body = x.body
                  · have hd : decide (y.body = x.body) = true := decide_eq_true q4
                    have HD := Lib.hid hd
                    have HQ := Lib.hid (show Wire.printF x = (Wire.text x, 0) from HQ0.out.trans (if_pos (by rw [Prod.mk.injEq, Prod.mk.injEq]; exact ⟨ReqP.same.mpr ⟨q1, q2, q3, q4⟩, hn, he⟩)))
                    clear HQ0 he hn q1 q2 q3 q4 hd
                    go_enter Try.func25, Try.ntmps25
                    go_wp2_with (first
                      | (go_at_call 40; rw [← HW.out]; refine Rets.use (dec_c (x.body.length : Int) (by omega) (by omega) w1) ?_; rw [← HSd.out]; rintro v2 w2 ⟨rfl, hk2⟩; have HK2 := Lib.hid hk2; have c3 := hk2.cell HC3.out (fun h => h))
                      | ((with_reducible refine at_ 57 rfl ?_); go_must (refine step_str_mrow2 rfl _ _ _ rfl Try.underlying9 Try.underlying22 Try.underlying5 (Wire.front x) (front_b HX.out) (by rw [← HSf.out]; rfl) ?_); intro cc w3 hm3 hk3; have HM3 := Lib.hid hm3; have HK3 := Lib.hid hk3; have HK13 := Lib.hid (HK2.out.trans hk3 (fun _ _ h => h)); have c3 := HK13.out.cell HC3.out (fun h => h); clear hm3)
                      | ((with_reducible refine at_ 60 rfl ?_); go_must (refine step_append_m rfl _ _ _ rfl Try.underlying22 row_byte w2.heap.size cc (Wire.front x) x.body rfl HM3.out (.slice A x.body.length c) rfl (HR.out.kept HK13.out (fun _ _ h => h)) (by have := front_len HF.out; omega) ?_); intro v4 w4 hr4 hk4; have HR4 := Lib.hid (show Rd w4 _ v4 (Wire.text x).length (Disk.bytes8 (Wire.text x)) from hr4); obtain ⟨A4, c4, hv4, _⟩ := hr4.slice; replace hv4 : v4 = .slice A4 (Wire.text x).length c4 := hv4; subst hv4; have HK4 := Lib.hid hk4; clear hr4)
                      | (go_at_call 13; refine Rets.use (wholeW_c (.slice A4 (Wire.text x).length c4) (Wire.text x) HR4.out (by omega) (text_b HX.out)) ?_; rw [HTT.out]; rintro v5 w5 ⟨hk5, u5, rfl, hO5⟩; have HO5 := Lib.hid hO5; obtain ⟨A5, c5, rfl, _⟩ := hO5.slice; have HK5 := Lib.hid hk5; clear hO5)
                      | ((with_reducible refine at_ 6 rfl ?_); go_must (refine step_alloc rfl _ rfl _ zq row_req rfl ?_); intro w6 hb6 hk6 hs6)
                      | ((with_reducible refine at_store 26 (.tmp 6) (.tmp 64) rfl ?_); go_must (refine step_store rfl _ _ _ rfl w5.heap.size 0 (reqC y (.slice A5 y.body.length c5)) _ _ rfl rfl hb6 (by simp [zq, reqC]) (info_reqC _ _) (by simp [reqC, Value.oneCell']) ?_); intro w7 hb7 hk7 hs7; rw [put_whole (by rfl)] at hb7; have HK7 := Lib.hid (fresh_set (Keeps.refl _ w5) hk6 hk7); have HB7 := Lib.hid hb7; have HK57 := Lib.hid (HK5.out.trans HK7.out (fun _ _ h => h)); have HKx := Lib.hid (((HK13.out.mono (S' := fun k => k = w2.heap.size) (fun _ _ h => h.elim)).trans HK4.out (fun _ _ h => h)).trans HK57.out (fun _ _ h => h.elim)); have hz2 : w.heap.size < w2.heap.size := (by have := HK2.out.size; omega); have HK07 := Lib.hid (((HK1.out.mono (S' := fun k => w.heap.size ≤ k) (fun _ _ h => h.elim)).trans HKx.out (fun k _ h => by omega)).mono (S' := fun _ => False) (fun k hk h => by omega)); have d0 := HKx.out.cell HC0.out (fun h => by have h2 : w.heap.size = w2.heap.size := h; omega); have d1 := HKx.out.cell HC1.out (fun h => by have h2 : w.heap.size = w2.heap.size := h; omega); have d2 := HKx.out.cell HC2.out (fun h => by have h2 : w.heap.size = w2.heap.size := h; omega); have d3 := HKx.out.cell HC3.out (fun h => by have h2 : w.heap.size = w2.heap.size := h; omega); have y0 : w7.cell? ⟨w5.heap.size, 0, none⟩ = some (.string (str y.method)) := (cell_of_row w7 _ 0 _ _ _ hb7).trans rfl; have y1 : w7.cell? ⟨w5.heap.size, 1, none⟩ = some (.string (str y.target)) := (cell_of_row w7 _ 1 _ _ _ hb7).trans rfl; have y2 : w7.cell? ⟨w5.heap.size, 2, none⟩ = some (.string (str y.token)) := (cell_of_row w7 _ 2 _ _ _ hb7).trans rfl; have y3 : w7.cell? ⟨w5.heap.size, 3, none⟩ = some (.slice A5 y.body.length c5) := (cell_of_row w7 _ 3 _ _ _ hb7).trans rfl; clear hb7 hb6 hk6 hk7)
                      | (go_at_call 41; refine Rets.use (equal_c (.slice A5 y.body.length c5) (.slice A x.body.length c) y.body x.body HYo.out.body HX.out.body (HO5.out.kept HK7.out (fun _ _ h => h)).rd ((HR.out.lt.mono (ok' := fun k => k < w1.heap.size) (fun k h => h.2)).kept HKx.out (fun k h h' => by have := HK2.out.size; omega))) ?_; rw [HD.out]; rintro _ _ ⟨rfl, rfl⟩))
                    go_ret2
                    rw [HQ.out]
                    exact ⟨HK07.out, .slice A4 (Wire.text x).length c4, rfl, (HR4.out.kept HK57.out (fun _ _ h => h)).mono (fun k h => by have := HK13.out.size; have := HK2.out.size; have := HK3.out.size; omega)⟩
                  · have hd : decide (y.body = x.body) = false := decide_eq_false q4
                    have HD := Lib.hid hd
                    have HQ := Lib.hid (show Wire.printF x = ([], 4) from HQ0.out.trans (if_neg (fun h => q4 (by rw [(Prod.mk.inj h).1]))))
                    clear HQ0 he hn q1 q2 q3 q4 hd
                    go_enter Try.func25, Try.ntmps25
                    go_wp2_with (first
                      | (go_at_call 40; rw [← HW.out]; refine Rets.use (dec_c (x.body.length : Int) (by omega) (by omega) w1) ?_; rw [← HSd.out]; rintro v2 w2 ⟨rfl, hk2⟩; have HK2 := Lib.hid hk2; have c3 := hk2.cell HC3.out (fun h => h))
                      | ((with_reducible refine at_ 57 rfl ?_); go_must (refine step_str_mrow2 rfl _ _ _ rfl Try.underlying9 Try.underlying22 Try.underlying5 (Wire.front x) (front_b HX.out) (by rw [← HSf.out]; rfl) ?_); intro cc w3 hm3 hk3; have HM3 := Lib.hid hm3; have HK3 := Lib.hid hk3; have HK13 := Lib.hid (HK2.out.trans hk3 (fun _ _ h => h)); have c3 := HK13.out.cell HC3.out (fun h => h); clear hm3)
                      | ((with_reducible refine at_ 60 rfl ?_); go_must (refine step_append_m rfl _ _ _ rfl Try.underlying22 row_byte w2.heap.size cc (Wire.front x) x.body rfl HM3.out (.slice A x.body.length c) rfl (HR.out.kept HK13.out (fun _ _ h => h)) (by have := front_len HF.out; omega) ?_); intro v4 w4 hr4 hk4; have HR4 := Lib.hid (show Rd w4 _ v4 (Wire.text x).length (Disk.bytes8 (Wire.text x)) from hr4); obtain ⟨A4, c4, hv4, _⟩ := hr4.slice; replace hv4 : v4 = .slice A4 (Wire.text x).length c4 := hv4; subst hv4; have HK4 := Lib.hid hk4; clear hr4)
                      | (go_at_call 13; refine Rets.use (wholeW_c (.slice A4 (Wire.text x).length c4) (Wire.text x) HR4.out (by omega) (text_b HX.out)) ?_; rw [HTT.out]; rintro v5 w5 ⟨hk5, u5, rfl, hO5⟩; have HO5 := Lib.hid hO5; obtain ⟨A5, c5, rfl, _⟩ := hO5.slice; have HK5 := Lib.hid hk5; clear hO5)
                      | ((with_reducible refine at_ 6 rfl ?_); go_must (refine step_alloc rfl _ rfl _ zq row_req rfl ?_); intro w6 hb6 hk6 hs6)
                      | ((with_reducible refine at_store 26 (.tmp 6) (.tmp 64) rfl ?_); go_must (refine step_store rfl _ _ _ rfl w5.heap.size 0 (reqC y (.slice A5 y.body.length c5)) _ _ rfl rfl hb6 (by simp [zq, reqC]) (info_reqC _ _) (by simp [reqC, Value.oneCell']) ?_); intro w7 hb7 hk7 hs7; rw [put_whole (by rfl)] at hb7; have HK7 := Lib.hid (fresh_set (Keeps.refl _ w5) hk6 hk7); have HB7 := Lib.hid hb7; have HK57 := Lib.hid (HK5.out.trans HK7.out (fun _ _ h => h)); have HKx := Lib.hid (((HK13.out.mono (S' := fun k => k = w2.heap.size) (fun _ _ h => h.elim)).trans HK4.out (fun _ _ h => h)).trans HK57.out (fun _ _ h => h.elim)); have hz2 : w.heap.size < w2.heap.size := (by have := HK2.out.size; omega); have HK07 := Lib.hid (((HK1.out.mono (S' := fun k => w.heap.size ≤ k) (fun _ _ h => h.elim)).trans HKx.out (fun k _ h => by omega)).mono (S' := fun _ => False) (fun k hk h => by omega)); have d0 := HKx.out.cell HC0.out (fun h => by have h2 : w.heap.size = w2.heap.size := h; omega); have d1 := HKx.out.cell HC1.out (fun h => by have h2 : w.heap.size = w2.heap.size := h; omega); have d2 := HKx.out.cell HC2.out (fun h => by have h2 : w.heap.size = w2.heap.size := h; omega); have d3 := HKx.out.cell HC3.out (fun h => by have h2 : w.heap.size = w2.heap.size := h; omega); have y0 : w7.cell? ⟨w5.heap.size, 0, none⟩ = some (.string (str y.method)) := (cell_of_row w7 _ 0 _ _ _ hb7).trans rfl; have y1 : w7.cell? ⟨w5.heap.size, 1, none⟩ = some (.string (str y.target)) := (cell_of_row w7 _ 1 _ _ _ hb7).trans rfl; have y2 : w7.cell? ⟨w5.heap.size, 2, none⟩ = some (.string (str y.token)) := (cell_of_row w7 _ 2 _ _ _ hb7).trans rfl; have y3 : w7.cell? ⟨w5.heap.size, 3, none⟩ = some (.slice A5 y.body.length c5) := (cell_of_row w7 _ 3 _ _ _ hb7).trans rfl; clear hb7 hb6 hk6 hk7)
                      | (go_at_call 41; refine Rets.use (equal_c (.slice A5 y.body.length c5) (.slice A x.body.length c) y.body x.body HYo.out.body HX.out.body (HO5.out.kept HK7.out (fun _ _ h => h)).rd ((HR.out.lt.mono (ok' := fun k => k < w1.heap.size) (fun k h => h.2)).kept HKx.out (fun k h h' => by have := HK2.out.size; omega))) ?_; rw [HD.out]; rintro _ _ ⟨rfl, rfl⟩))
                    go_ret2
                    rw [HQ.out]
                    exact ⟨HK07.out, .slice none 0 0, rfl, Rd.nil _ _⟩
                · rw [decide_eq_false q3] at e3
                  have HQ := Lib.hid (show Wire.printF x = ([], 4) from HQ0.out.trans (if_neg (fun h => q3 (by rw [(Prod.mk.inj h).1]))))
                  clear HQ0 he hn q1 q2 q3
                  go_enter Try.func25, Try.ntmps25
                  go_wp2_with (first
                    | (go_at_call 40; rw [← HW.out]; refine Rets.use (dec_c (x.body.length : Int) (by omega) (by omega) w1) ?_; rw [← HSd.out]; rintro v2 w2 ⟨rfl, hk2⟩; have HK2 := Lib.hid hk2; have c3 := hk2.cell HC3.out (fun h => h))
                    | ((with_reducible refine at_ 57 rfl ?_); go_must (refine step_str_mrow2 rfl _ _ _ rfl Try.underlying9 Try.underlying22 Try.underlying5 (Wire.front x) (front_b HX.out) (by rw [← HSf.out]; rfl) ?_); intro cc w3 hm3 hk3; have HM3 := Lib.hid hm3; have HK3 := Lib.hid hk3; have HK13 := Lib.hid (HK2.out.trans hk3 (fun _ _ h => h)); have c3 := HK13.out.cell HC3.out (fun h => h); clear hm3)
                    | ((with_reducible refine at_ 60 rfl ?_); go_must (refine step_append_m rfl _ _ _ rfl Try.underlying22 row_byte w2.heap.size cc (Wire.front x) x.body rfl HM3.out (.slice A x.body.length c) rfl (HR.out.kept HK13.out (fun _ _ h => h)) (by have := front_len HF.out; omega) ?_); intro v4 w4 hr4 hk4; have HR4 := Lib.hid (show Rd w4 _ v4 (Wire.text x).length (Disk.bytes8 (Wire.text x)) from hr4); obtain ⟨A4, c4, hv4, _⟩ := hr4.slice; replace hv4 : v4 = .slice A4 (Wire.text x).length c4 := hv4; subst hv4; have HK4 := Lib.hid hk4; clear hr4)
                    | (go_at_call 13; refine Rets.use (wholeW_c (.slice A4 (Wire.text x).length c4) (Wire.text x) HR4.out (by omega) (text_b HX.out)) ?_; rw [HTT.out]; rintro v5 w5 ⟨hk5, u5, rfl, hO5⟩; have HO5 := Lib.hid hO5; obtain ⟨A5, c5, rfl, _⟩ := hO5.slice; have HK5 := Lib.hid hk5; clear hO5)
                    | ((with_reducible refine at_ 6 rfl ?_); go_must (refine step_alloc rfl _ rfl _ zq row_req rfl ?_); intro w6 hb6 hk6 hs6)
                    | ((with_reducible refine at_store 26 (.tmp 6) (.tmp 64) rfl ?_); go_must (refine step_store rfl _ _ _ rfl w5.heap.size 0 (reqC y (.slice A5 y.body.length c5)) _ _ rfl rfl hb6 (by simp [zq, reqC]) (info_reqC _ _) (by simp [reqC, Value.oneCell']) ?_); intro w7 hb7 hk7 hs7; rw [put_whole (by rfl)] at hb7; have HK7 := Lib.hid (fresh_set (Keeps.refl _ w5) hk6 hk7); have HB7 := Lib.hid hb7; have HK57 := Lib.hid (HK5.out.trans HK7.out (fun _ _ h => h)); have HKx := Lib.hid (((HK13.out.mono (S' := fun k => k = w2.heap.size) (fun _ _ h => h.elim)).trans HK4.out (fun _ _ h => h)).trans HK57.out (fun _ _ h => h.elim)); have hz2 : w.heap.size < w2.heap.size := (by have := HK2.out.size; omega); have HK07 := Lib.hid (((HK1.out.mono (S' := fun k => w.heap.size ≤ k) (fun _ _ h => h.elim)).trans HKx.out (fun k _ h => by omega)).mono (S' := fun _ => False) (fun k hk h => by omega)); have d0 := HKx.out.cell HC0.out (fun h => by have h2 : w.heap.size = w2.heap.size := h; omega); have d1 := HKx.out.cell HC1.out (fun h => by have h2 : w.heap.size = w2.heap.size := h; omega); have d2 := HKx.out.cell HC2.out (fun h => by have h2 : w.heap.size = w2.heap.size := h; omega); have d3 := HKx.out.cell HC3.out (fun h => by have h2 : w.heap.size = w2.heap.size := h; omega); have y0 : w7.cell? ⟨w5.heap.size, 0, none⟩ = some (.string (str y.method)) := (cell_of_row w7 _ 0 _ _ _ hb7).trans rfl; have y1 : w7.cell? ⟨w5.heap.size, 1, none⟩ = some (.string (str y.target)) := (cell_of_row w7 _ 1 _ _ _ hb7).trans rfl; have y2 : w7.cell? ⟨w5.heap.size, 2, none⟩ = some (.string (str y.token)) := (cell_of_row w7 _ 2 _ _ _ hb7).trans rfl; have y3 : w7.cell? ⟨w5.heap.size, 3, none⟩ = some (.slice A5 y.body.length c5) := (cell_of_row w7 _ 3 _ _ _ hb7).trans rfl; clear hb7 hb6 hk6 hk7)
                    | (go_at_call 41; refine Rets.use (equal_c (.slice A5 y.body.length c5) (.slice A x.body.length c) y.body x.body HYo.out.body HX.out.body (HO5.out.kept HK7.out (fun _ _ h => h)).rd ((HR.out.lt.mono (ok' := fun k => k < w1.heap.size) (fun k h => h.2)).kept HKx.out (fun k h h' => by have := HK2.out.size; omega))) ?_; rw [HD.out]; rintro _ _ ⟨rfl, rfl⟩))
                  go_ret2
                  rw [HQ.out]
                  exact ⟨HK07.out, .slice none 0 0, rfl, Rd.nil _ _⟩
              · rw [decide_eq_false q2] at e2
                have HQ := Lib.hid (show Wire.printF x = ([], 4) from HQ0.out.trans (if_neg (fun h => q2 (by rw [(Prod.mk.inj h).1]))))
                clear HQ0 he hn q1 q2 e3
                go_enter Try.func25, Try.ntmps25
                go_wp2_with (first
                  | (go_at_call 40; rw [← HW.out]; refine Rets.use (dec_c (x.body.length : Int) (by omega) (by omega) w1) ?_; rw [← HSd.out]; rintro v2 w2 ⟨rfl, hk2⟩; have HK2 := Lib.hid hk2; have c3 := hk2.cell HC3.out (fun h => h))
                  | ((with_reducible refine at_ 57 rfl ?_); go_must (refine step_str_mrow2 rfl _ _ _ rfl Try.underlying9 Try.underlying22 Try.underlying5 (Wire.front x) (front_b HX.out) (by rw [← HSf.out]; rfl) ?_); intro cc w3 hm3 hk3; have HM3 := Lib.hid hm3; have HK3 := Lib.hid hk3; have HK13 := Lib.hid (HK2.out.trans hk3 (fun _ _ h => h)); have c3 := HK13.out.cell HC3.out (fun h => h); clear hm3)
                  | ((with_reducible refine at_ 60 rfl ?_); go_must (refine step_append_m rfl _ _ _ rfl Try.underlying22 row_byte w2.heap.size cc (Wire.front x) x.body rfl HM3.out (.slice A x.body.length c) rfl (HR.out.kept HK13.out (fun _ _ h => h)) (by have := front_len HF.out; omega) ?_); intro v4 w4 hr4 hk4; have HR4 := Lib.hid (show Rd w4 _ v4 (Wire.text x).length (Disk.bytes8 (Wire.text x)) from hr4); obtain ⟨A4, c4, hv4, _⟩ := hr4.slice; replace hv4 : v4 = .slice A4 (Wire.text x).length c4 := hv4; subst hv4; have HK4 := Lib.hid hk4; clear hr4)
                  | (go_at_call 13; refine Rets.use (wholeW_c (.slice A4 (Wire.text x).length c4) (Wire.text x) HR4.out (by omega) (text_b HX.out)) ?_; rw [HTT.out]; rintro v5 w5 ⟨hk5, u5, rfl, hO5⟩; have HO5 := Lib.hid hO5; obtain ⟨A5, c5, rfl, _⟩ := hO5.slice; have HK5 := Lib.hid hk5; clear hO5)
                  | ((with_reducible refine at_ 6 rfl ?_); go_must (refine step_alloc rfl _ rfl _ zq row_req rfl ?_); intro w6 hb6 hk6 hs6)
                  | ((with_reducible refine at_store 26 (.tmp 6) (.tmp 64) rfl ?_); go_must (refine step_store rfl _ _ _ rfl w5.heap.size 0 (reqC y (.slice A5 y.body.length c5)) _ _ rfl rfl hb6 (by simp [zq, reqC]) (info_reqC _ _) (by simp [reqC, Value.oneCell']) ?_); intro w7 hb7 hk7 hs7; rw [put_whole (by rfl)] at hb7; have HK7 := Lib.hid (fresh_set (Keeps.refl _ w5) hk6 hk7); have HB7 := Lib.hid hb7; have HK57 := Lib.hid (HK5.out.trans HK7.out (fun _ _ h => h)); have HKx := Lib.hid (((HK13.out.mono (S' := fun k => k = w2.heap.size) (fun _ _ h => h.elim)).trans HK4.out (fun _ _ h => h)).trans HK57.out (fun _ _ h => h.elim)); have hz2 : w.heap.size < w2.heap.size := (by have := HK2.out.size; omega); have HK07 := Lib.hid (((HK1.out.mono (S' := fun k => w.heap.size ≤ k) (fun _ _ h => h.elim)).trans HKx.out (fun k _ h => by omega)).mono (S' := fun _ => False) (fun k hk h => by omega)); have d0 := HKx.out.cell HC0.out (fun h => by have h2 : w.heap.size = w2.heap.size := h; omega); have d1 := HKx.out.cell HC1.out (fun h => by have h2 : w.heap.size = w2.heap.size := h; omega); have d2 := HKx.out.cell HC2.out (fun h => by have h2 : w.heap.size = w2.heap.size := h; omega); have d3 := HKx.out.cell HC3.out (fun h => by have h2 : w.heap.size = w2.heap.size := h; omega); have y0 : w7.cell? ⟨w5.heap.size, 0, none⟩ = some (.string (str y.method)) := (cell_of_row w7 _ 0 _ _ _ hb7).trans rfl; have y1 : w7.cell? ⟨w5.heap.size, 1, none⟩ = some (.string (str y.target)) := (cell_of_row w7 _ 1 _ _ _ hb7).trans rfl; have y2 : w7.cell? ⟨w5.heap.size, 2, none⟩ = some (.string (str y.token)) := (cell_of_row w7 _ 2 _ _ _ hb7).trans rfl; have y3 : w7.cell? ⟨w5.heap.size, 3, none⟩ = some (.slice A5 y.body.length c5) := (cell_of_row w7 _ 3 _ _ _ hb7).trans rfl; clear hb7 hb6 hk6 hk7)
                  | (go_at_call 41; refine Rets.use (equal_c (.slice A5 y.body.length c5) (.slice A x.body.length c) y.body x.body HYo.out.body HX.out.body (HO5.out.kept HK7.out (fun _ _ h => h)).rd ((HR.out.lt.mono (ok' := fun k => k < w1.heap.size) (fun k h => h.2)).kept HKx.out (fun k h h' => by have := HK2.out.size; omega))) ?_; rw [HD.out]; rintro _ _ ⟨rfl, rfl⟩))
                go_ret2
                rw [HQ.out]
                exact ⟨HK07.out, .slice none 0 0, rfl, Rd.nil _ _⟩
            · rw [decide_eq_false q1] at e1
              have HQ := Lib.hid (show Wire.printF x = ([], 4) from HQ0.out.trans (if_neg (fun h => q1 (by rw [(Prod.mk.inj h).1]))))
              clear HQ0 he hn q1 e2 e3
              go_enter Try.func25, Try.ntmps25
              go_wp2_with (first
                | (go_at_call 40; rw [← HW.out]; refine Rets.use (dec_c (x.body.length : Int) (by omega) (by omega) w1) ?_; rw [← HSd.out]; rintro v2 w2 ⟨rfl, hk2⟩; have HK2 := Lib.hid hk2; have c3 := hk2.cell HC3.out (fun h => h))
                | ((with_reducible refine at_ 57 rfl ?_); go_must (refine step_str_mrow2 rfl _ _ _ rfl Try.underlying9 Try.underlying22 Try.underlying5 (Wire.front x) (front_b HX.out) (by rw [← HSf.out]; rfl) ?_); intro cc w3 hm3 hk3; have HM3 := Lib.hid hm3; have HK3 := Lib.hid hk3; have HK13 := Lib.hid (HK2.out.trans hk3 (fun _ _ h => h)); have c3 := HK13.out.cell HC3.out (fun h => h); clear hm3)
                | ((with_reducible refine at_ 60 rfl ?_); go_must (refine step_append_m rfl _ _ _ rfl Try.underlying22 row_byte w2.heap.size cc (Wire.front x) x.body rfl HM3.out (.slice A x.body.length c) rfl (HR.out.kept HK13.out (fun _ _ h => h)) (by have := front_len HF.out; omega) ?_); intro v4 w4 hr4 hk4; have HR4 := Lib.hid (show Rd w4 _ v4 (Wire.text x).length (Disk.bytes8 (Wire.text x)) from hr4); obtain ⟨A4, c4, hv4, _⟩ := hr4.slice; replace hv4 : v4 = .slice A4 (Wire.text x).length c4 := hv4; subst hv4; have HK4 := Lib.hid hk4; clear hr4)
                | (go_at_call 13; refine Rets.use (wholeW_c (.slice A4 (Wire.text x).length c4) (Wire.text x) HR4.out (by omega) (text_b HX.out)) ?_; rw [HTT.out]; rintro v5 w5 ⟨hk5, u5, rfl, hO5⟩; have HO5 := Lib.hid hO5; obtain ⟨A5, c5, rfl, _⟩ := hO5.slice; have HK5 := Lib.hid hk5; clear hO5)
                | ((with_reducible refine at_ 6 rfl ?_); go_must (refine step_alloc rfl _ rfl _ zq row_req rfl ?_); intro w6 hb6 hk6 hs6)
                | ((with_reducible refine at_store 26 (.tmp 6) (.tmp 64) rfl ?_); go_must (refine step_store rfl _ _ _ rfl w5.heap.size 0 (reqC y (.slice A5 y.body.length c5)) _ _ rfl rfl hb6 (by simp [zq, reqC]) (info_reqC _ _) (by simp [reqC, Value.oneCell']) ?_); intro w7 hb7 hk7 hs7; rw [put_whole (by rfl)] at hb7; have HK7 := Lib.hid (fresh_set (Keeps.refl _ w5) hk6 hk7); have HB7 := Lib.hid hb7; have HK57 := Lib.hid (HK5.out.trans HK7.out (fun _ _ h => h)); have HKx := Lib.hid (((HK13.out.mono (S' := fun k => k = w2.heap.size) (fun _ _ h => h.elim)).trans HK4.out (fun _ _ h => h)).trans HK57.out (fun _ _ h => h.elim)); have hz2 : w.heap.size < w2.heap.size := (by have := HK2.out.size; omega); have HK07 := Lib.hid (((HK1.out.mono (S' := fun k => w.heap.size ≤ k) (fun _ _ h => h.elim)).trans HKx.out (fun k _ h => by omega)).mono (S' := fun _ => False) (fun k hk h => by omega)); have d0 := HKx.out.cell HC0.out (fun h => by have h2 : w.heap.size = w2.heap.size := h; omega); have d1 := HKx.out.cell HC1.out (fun h => by have h2 : w.heap.size = w2.heap.size := h; omega); have d2 := HKx.out.cell HC2.out (fun h => by have h2 : w.heap.size = w2.heap.size := h; omega); have d3 := HKx.out.cell HC3.out (fun h => by have h2 : w.heap.size = w2.heap.size := h; omega); have y0 : w7.cell? ⟨w5.heap.size, 0, none⟩ = some (.string (str y.method)) := (cell_of_row w7 _ 0 _ _ _ hb7).trans rfl; have y1 : w7.cell? ⟨w5.heap.size, 1, none⟩ = some (.string (str y.target)) := (cell_of_row w7 _ 1 _ _ _ hb7).trans rfl; have y2 : w7.cell? ⟨w5.heap.size, 2, none⟩ = some (.string (str y.token)) := (cell_of_row w7 _ 2 _ _ _ hb7).trans rfl; have y3 : w7.cell? ⟨w5.heap.size, 3, none⟩ = some (.slice A5 y.body.length c5) := (cell_of_row w7 _ 3 _ _ _ hb7).trans rfl; clear hb7 hb6 hk6 hk7)
                | (go_at_call 41; refine Rets.use (equal_c (.slice A5 y.body.length c5) (.slice A x.body.length c) y.body x.body HYo.out.body HX.out.body (HO5.out.kept HK7.out (fun _ _ h => h)).rd ((HR.out.lt.mono (ok' := fun k => k < w1.heap.size) (fun k h => h.2)).kept HKx.out (fun k h h' => by have := HK2.out.size; omega))) ?_; rw [HD.out]; rintro _ _ ⟨rfl, rfl⟩))
              go_ret2
              rw [HQ.out]
              exact ⟨HK07.out, .slice none 0 0, rfl, Rd.nil _ _⟩
          · have hnb : (n != ((Wire.text x).length : Int)) = true := by simpa using hn
            have HQ := Lib.hid (show Wire.printF x = ([], 4) from HQ0.out.trans (if_neg (fun h => hn (Prod.mk.inj (Prod.mk.inj h).2).1)))
            clear HQ0 he hn
            go_enter Try.func25, Try.ntmps25
            go_wp2_with (first
              | (go_at_call 40; rw [← HW.out]; refine Rets.use (dec_c (x.body.length : Int) (by omega) (by omega) w1) ?_; rw [← HSd.out]; rintro v2 w2 ⟨rfl, hk2⟩; have HK2 := Lib.hid hk2; have c3 := hk2.cell HC3.out (fun h => h))
              | ((with_reducible refine at_ 57 rfl ?_); go_must (refine step_str_mrow2 rfl _ _ _ rfl Try.underlying9 Try.underlying22 Try.underlying5 (Wire.front x) (front_b HX.out) (by rw [← HSf.out]; rfl) ?_); intro cc w3 hm3 hk3; have HM3 := Lib.hid hm3; have HK3 := Lib.hid hk3; have HK13 := Lib.hid (HK2.out.trans hk3 (fun _ _ h => h)); have c3 := HK13.out.cell HC3.out (fun h => h); clear hm3)
              | ((with_reducible refine at_ 60 rfl ?_); go_must (refine step_append_m rfl _ _ _ rfl Try.underlying22 row_byte w2.heap.size cc (Wire.front x) x.body rfl HM3.out (.slice A x.body.length c) rfl (HR.out.kept HK13.out (fun _ _ h => h)) (by have := front_len HF.out; omega) ?_); intro v4 w4 hr4 hk4; have HR4 := Lib.hid (show Rd w4 _ v4 (Wire.text x).length (Disk.bytes8 (Wire.text x)) from hr4); obtain ⟨A4, c4, hv4, _⟩ := hr4.slice; replace hv4 : v4 = .slice A4 (Wire.text x).length c4 := hv4; subst hv4; have HK4 := Lib.hid hk4; clear hr4)
              | (go_at_call 13; refine Rets.use (wholeW_c (.slice A4 (Wire.text x).length c4) (Wire.text x) HR4.out (by omega) (text_b HX.out)) ?_; rw [HTT.out]; rintro v5 w5 ⟨hk5, u5, rfl, hO5⟩; have HO5 := Lib.hid hO5; obtain ⟨A5, c5, rfl, _⟩ := hO5.slice; have HK5 := Lib.hid hk5; clear hO5)
              | ((with_reducible refine at_ 6 rfl ?_); go_must (refine step_alloc rfl _ rfl _ zq row_req rfl ?_); intro w6 hb6 hk6 hs6)
              | ((with_reducible refine at_store 26 (.tmp 6) (.tmp 64) rfl ?_); go_must (refine step_store rfl _ _ _ rfl w5.heap.size 0 (reqC y (.slice A5 y.body.length c5)) _ _ rfl rfl hb6 (by simp [zq, reqC]) (info_reqC _ _) (by simp [reqC, Value.oneCell']) ?_); intro w7 hb7 hk7 hs7; rw [put_whole (by rfl)] at hb7; have HK7 := Lib.hid (fresh_set (Keeps.refl _ w5) hk6 hk7); have HB7 := Lib.hid hb7; have HK57 := Lib.hid (HK5.out.trans HK7.out (fun _ _ h => h)); have HKx := Lib.hid (((HK13.out.mono (S' := fun k => k = w2.heap.size) (fun _ _ h => h.elim)).trans HK4.out (fun _ _ h => h)).trans HK57.out (fun _ _ h => h.elim)); have hz2 : w.heap.size < w2.heap.size := (by have := HK2.out.size; omega); have HK07 := Lib.hid (((HK1.out.mono (S' := fun k => w.heap.size ≤ k) (fun _ _ h => h.elim)).trans HKx.out (fun k _ h => by omega)).mono (S' := fun _ => False) (fun k hk h => by omega)); have d0 := HKx.out.cell HC0.out (fun h => by have h2 : w.heap.size = w2.heap.size := h; omega); have d1 := HKx.out.cell HC1.out (fun h => by have h2 : w.heap.size = w2.heap.size := h; omega); have d2 := HKx.out.cell HC2.out (fun h => by have h2 : w.heap.size = w2.heap.size := h; omega); have d3 := HKx.out.cell HC3.out (fun h => by have h2 : w.heap.size = w2.heap.size := h; omega); have y0 : w7.cell? ⟨w5.heap.size, 0, none⟩ = some (.string (str y.method)) := (cell_of_row w7 _ 0 _ _ _ hb7).trans rfl; have y1 : w7.cell? ⟨w5.heap.size, 1, none⟩ = some (.string (str y.target)) := (cell_of_row w7 _ 1 _ _ _ hb7).trans rfl; have y2 : w7.cell? ⟨w5.heap.size, 2, none⟩ = some (.string (str y.token)) := (cell_of_row w7 _ 2 _ _ _ hb7).trans rfl; have y3 : w7.cell? ⟨w5.heap.size, 3, none⟩ = some (.slice A5 y.body.length c5) := (cell_of_row w7 _ 3 _ _ _ hb7).trans rfl; clear hb7 hb6 hk6 hk7)
              | (go_at_call 41; refine Rets.use (equal_c (.slice A5 y.body.length c5) (.slice A x.body.length c) y.body x.body HYo.out.body HX.out.body (HO5.out.kept HK7.out (fun _ _ h => h)).rd ((HR.out.lt.mono (ok' := fun k => k < w1.heap.size) (fun k h => h.2)).kept HKx.out (fun k h h' => by have := HK2.out.size; omega))) ?_; rw [HD.out]; rintro _ _ ⟨rfl, rfl⟩))
            go_ret2
            rw [HQ.out]
            exact ⟨HK07.out, .slice none 0 0, rfl, Rd.nil _ _⟩
        · have heb : (e != 0) = true := by simpa using he
          have HQ := Lib.hid (show Wire.printF x = ([], 4) from HQ0.out.trans (if_neg (fun h => he (Prod.mk.inj (Prod.mk.inj h).2).2)))
          clear HQ0 he
          go_enter Try.func25, Try.ntmps25
          go_wp2_with (first
            | (go_at_call 40; rw [← HW.out]; refine Rets.use (dec_c (x.body.length : Int) (by omega) (by omega) w1) ?_; rw [← HSd.out]; rintro v2 w2 ⟨rfl, hk2⟩; have HK2 := Lib.hid hk2; have c3 := hk2.cell HC3.out (fun h => h))
            | ((with_reducible refine at_ 57 rfl ?_); go_must (refine step_str_mrow2 rfl _ _ _ rfl Try.underlying9 Try.underlying22 Try.underlying5 (Wire.front x) (front_b HX.out) (by rw [← HSf.out]; rfl) ?_); intro cc w3 hm3 hk3; have HM3 := Lib.hid hm3; have HK3 := Lib.hid hk3; have HK13 := Lib.hid (HK2.out.trans hk3 (fun _ _ h => h)); have c3 := HK13.out.cell HC3.out (fun h => h); clear hm3)
            | ((with_reducible refine at_ 60 rfl ?_); go_must (refine step_append_m rfl _ _ _ rfl Try.underlying22 row_byte w2.heap.size cc (Wire.front x) x.body rfl HM3.out (.slice A x.body.length c) rfl (HR.out.kept HK13.out (fun _ _ h => h)) (by have := front_len HF.out; omega) ?_); intro v4 w4 hr4 hk4; have HR4 := Lib.hid (show Rd w4 _ v4 (Wire.text x).length (Disk.bytes8 (Wire.text x)) from hr4); obtain ⟨A4, c4, hv4, _⟩ := hr4.slice; replace hv4 : v4 = .slice A4 (Wire.text x).length c4 := hv4; subst hv4; have HK4 := Lib.hid hk4; clear hr4)
            | (go_at_call 13; refine Rets.use (wholeW_c (.slice A4 (Wire.text x).length c4) (Wire.text x) HR4.out (by omega) (text_b HX.out)) ?_; rw [HTT.out]; rintro v5 w5 ⟨hk5, u5, rfl, hO5⟩; have HO5 := Lib.hid hO5; obtain ⟨A5, c5, rfl, _⟩ := hO5.slice; have HK5 := Lib.hid hk5; clear hO5)
            | ((with_reducible refine at_ 6 rfl ?_); go_must (refine step_alloc rfl _ rfl _ zq row_req rfl ?_); intro w6 hb6 hk6 hs6)
            | ((with_reducible refine at_store 26 (.tmp 6) (.tmp 64) rfl ?_); go_must (refine step_store rfl _ _ _ rfl w5.heap.size 0 (reqC y (.slice A5 y.body.length c5)) _ _ rfl rfl hb6 (by simp [zq, reqC]) (info_reqC _ _) (by simp [reqC, Value.oneCell']) ?_); intro w7 hb7 hk7 hs7; rw [put_whole (by rfl)] at hb7; have HK7 := Lib.hid (fresh_set (Keeps.refl _ w5) hk6 hk7); have HB7 := Lib.hid hb7; have HK57 := Lib.hid (HK5.out.trans HK7.out (fun _ _ h => h)); have HKx := Lib.hid (((HK13.out.mono (S' := fun k => k = w2.heap.size) (fun _ _ h => h.elim)).trans HK4.out (fun _ _ h => h)).trans HK57.out (fun _ _ h => h.elim)); have hz2 : w.heap.size < w2.heap.size := (by have := HK2.out.size; omega); have HK07 := Lib.hid (((HK1.out.mono (S' := fun k => w.heap.size ≤ k) (fun _ _ h => h.elim)).trans HKx.out (fun k _ h => by omega)).mono (S' := fun _ => False) (fun k hk h => by omega)); have d0 := HKx.out.cell HC0.out (fun h => by have h2 : w.heap.size = w2.heap.size := h; omega); have d1 := HKx.out.cell HC1.out (fun h => by have h2 : w.heap.size = w2.heap.size := h; omega); have d2 := HKx.out.cell HC2.out (fun h => by have h2 : w.heap.size = w2.heap.size := h; omega); have d3 := HKx.out.cell HC3.out (fun h => by have h2 : w.heap.size = w2.heap.size := h; omega); have y0 : w7.cell? ⟨w5.heap.size, 0, none⟩ = some (.string (str y.method)) := (cell_of_row w7 _ 0 _ _ _ hb7).trans rfl; have y1 : w7.cell? ⟨w5.heap.size, 1, none⟩ = some (.string (str y.target)) := (cell_of_row w7 _ 1 _ _ _ hb7).trans rfl; have y2 : w7.cell? ⟨w5.heap.size, 2, none⟩ = some (.string (str y.token)) := (cell_of_row w7 _ 2 _ _ _ hb7).trans rfl; have y3 : w7.cell? ⟨w5.heap.size, 3, none⟩ = some (.slice A5 y.body.length c5) := (cell_of_row w7 _ 3 _ _ _ hb7).trans rfl; clear hb7 hb6 hk6 hk7)
            | (go_at_call 41; refine Rets.use (equal_c (.slice A5 y.body.length c5) (.slice A x.body.length c) y.body x.body HYo.out.body HX.out.body (HO5.out.kept HK7.out (fun _ _ h => h)).rd ((HR.out.lt.mono (ok' := fun k => k < w1.heap.size) (fun k h => h.2)).kept HKx.out (fun k h h' => by have := HK2.out.size; omega))) ?_; rw [HD.out]; rintro _ _ ⟨rfl, rfl⟩))
          go_ret2
          rw [HQ.out]
          exact ⟨HK07.out, .slice none 0 0, rfl, Rd.nil _ _⟩
    · have hE : (sk.toList == []) = false := by rw [hsk]; exact str_pos ht
      obtain ⟨s4, hs4'⟩ : ∃ s, s = str (Wire.withA x) := ⟨_, rfl⟩
      obtain ⟨s6, hs6'⟩ : ∃ s, s = str (Wire.kA ++ x.token) := ⟨_, rfl⟩
      obtain ⟨s7, hs7'⟩ : ∃ s, s = str ((Wire.kA ++ x.token) ++ Wire.crlf) := ⟨_, rfl⟩
      have a4 : ∀ w', (Op.stringOp .add ⟨#[65, 117, 116, 104, 111, 114, 105, 122, 97, 116, 105, 111, 110, 58, 32, 66, 101, 97, 114, 101, 114, 32]⟩ sk).run Try.prog w' = .ok (.string s6) w' := fun w' => by rw [hs6', hsk]; exact add_str (a := Wire.kA) (by simp only [Wire.kA, List.length_cons, List.length_nil]; omega) w'
      have a5 : ∀ w', (Op.stringOp .add s6 ⟨#[13, 10]⟩).run Try.prog w' = .ok (.string s7) w' := fun w' => by rw [hs6', hs7']; exact add_str (b := Wire.crlf) (by simp only [Wire.kA, Wire.crlf, List.length_append, List.length_cons, List.length_nil]; omega) w'
      have a6 : ∀ w', (Op.stringOp .add s3 s7).run Try.prog w' = .ok (.string s4) w' := fun w' => by rw [hs3', hs7', hs4']; unfold Wire.withA; rw [if_neg ht]; exact add_str (by simp only [Wire.kA, Wire.crlf, List.length_append, List.length_cons, List.length_nil]; omega) w'
      have hal : (Wire.withA x).length ≤ 1700 := by unfold Wire.withA Wire.kA Wire.crlf; rw [if_neg ht]; simp only [List.length_append, List.length_cons, List.length_nil]; omega
      clear hs6' hs7'
      obtain ⟨sf, hsf⟩ : ∃ s, s = str (Wire.front x) := ⟨_, rfl⟩
      have HSf := Lib.hid hsf
      have HK1 := Lib.hid hk1
      by_cases hb : x.body = []
      · have e0 : x.body.length ≤ 0 := by rw [hb]; exact Nat.le_refl _
        have ae : ∀ w', (Op.stringOp .add s4 ⟨#[13, 10]⟩).run Try.prog w' = .ok (.string sf) w' := fun w' => by rw [hs4', hsf]; unfold Wire.front Wire.withL; rw [if_pos hb]; exact add_str (b := Wire.crlf) (by simp only [Wire.crlf, List.length_cons, List.length_nil]; omega) w'
        obtain ⟨w2, hw2⟩ : ∃ w2, w2 = w1 := ⟨_, rfl⟩
        have HW2 := Lib.hid (show w2 = w.alloc (.cells #[.string sm, .string st, .string sk, .slice A x.body.length c] 26) by rw [hw2, hw1])
        have HK2 := Lib.hid (show Keeps (fun _ => False) w1 w2 by rw [hw2]; exact Keeps.refl _ _)
        clear hw1 hb1 hr hx hf hsm hst hsk hs1' hs2' hs3' hs4' hsf ht hb hk1 hw2
        obtain ⟨t, htt⟩ : ∃ t, Wire.whole (Wire.text x) = t := ⟨_, rfl⟩
        have HTT := Lib.hid htt
        have htl : (Wire.text x).length ≤ 4100 := by have := front_len HF.out; unfold Wire.text; rw [List.length_append]; omega
        have hgd := whole_good (Wire.text x) (text_b HX.out)
        rw [htt] at hgd
        have HYo := Lib.hid hgd.1
        obtain ⟨y, n, e⟩ := t
        rw [htt] at HQ0
        have HTl := Lib.hid (rfl : (Wire.text x).length = (Wire.text x).length)
        clear htt hgd
        by_cases he : e = 0
        · have heb : (e != 0) = false := by rw [he]; rfl
          by_cases hn : n = ((Wire.text x).length : Int)
          · have hnb : (n != ((Wire.text x).length : Int)) = false := by rw [hn]; simp
            have e1 := str_eq HYo.out.method HX.out.method
            have e2 := str_eq HYo.out.target HX.out.target
            have e3 := str_eq HYo.out.token HX.out.token
            rw [← HSm.out] at e1
            rw [← HSt.out] at e2
            rw [← HSk.out] at e3
            by_cases q1 : y.method = x.method
            · rw [decide_eq_true q1] at e1
              by_cases q2 : y.target = x.target
              · rw [decide_eq_true q2] at e2
                by_cases q3 : y.token = x.token
                · rw [decide_eq_true q3] at e3
                  by_cases q4 : y.body = x.body
                  · have hd : decide (y.body = x.body) = true := decide_eq_true q4
                    have HD := Lib.hid hd
                    have HQ := Lib.hid (show Wire.printF x = (Wire.text x, 0) from HQ0.out.trans (if_pos (by rw [Prod.mk.injEq, Prod.mk.injEq]; exact ⟨ReqP.same.mpr ⟨q1, q2, q3, q4⟩, hn, he⟩)))
                    clear HQ0 he hn q1 q2 q3 q4 hd
                    go_enter Try.func25, Try.ntmps25
                    go_wp2_with (first
                      | (go_at_call 40; rw [← HW.out]; refine Rets.use (dec_c (x.body.length : Int) (by omega) (by omega) w1) ?_; rw [← HSd.out]; rintro v2 w2 ⟨rfl, hk2⟩; have HK2 := Lib.hid hk2; have c3 := hk2.cell HC3.out (fun h => h))
                      | ((with_reducible refine at_ 57 rfl ?_); rw [← HW2.out]; go_must (refine step_str_mrow2 rfl _ _ _ rfl Try.underlying9 Try.underlying22 Try.underlying5 (Wire.front x) (front_b HX.out) (by rw [← HSf.out]; rfl) ?_); intro cc w3 hm3 hk3; have HM3 := Lib.hid hm3; have HK3 := Lib.hid hk3; have HK13 := Lib.hid (HK2.out.trans hk3 (fun _ _ h => h)); have c3 := HK13.out.cell HC3.out (fun h => h); clear hm3)
                      | ((with_reducible refine at_ 60 rfl ?_); go_must (refine step_append_m rfl _ _ _ rfl Try.underlying22 row_byte w2.heap.size cc (Wire.front x) x.body rfl HM3.out (.slice A x.body.length c) rfl (HR.out.kept HK13.out (fun _ _ h => h)) (by have := front_len HF.out; omega) ?_); intro v4 w4 hr4 hk4; have HR4 := Lib.hid (show Rd w4 _ v4 (Wire.text x).length (Disk.bytes8 (Wire.text x)) from hr4); obtain ⟨A4, c4, hv4, _⟩ := hr4.slice; replace hv4 : v4 = .slice A4 (Wire.text x).length c4 := hv4; subst hv4; have HK4 := Lib.hid hk4; clear hr4)
                      | (go_at_call 13; refine Rets.use (wholeW_c (.slice A4 (Wire.text x).length c4) (Wire.text x) HR4.out (by omega) (text_b HX.out)) ?_; rw [HTT.out]; rintro v5 w5 ⟨hk5, u5, rfl, hO5⟩; have HO5 := Lib.hid hO5; obtain ⟨A5, c5, rfl, _⟩ := hO5.slice; have HK5 := Lib.hid hk5; clear hO5)
                      | ((with_reducible refine at_ 6 rfl ?_); go_must (refine step_alloc rfl _ rfl _ zq row_req rfl ?_); intro w6 hb6 hk6 hs6)
                      | ((with_reducible refine at_store 26 (.tmp 6) (.tmp 64) rfl ?_); go_must (refine step_store rfl _ _ _ rfl w5.heap.size 0 (reqC y (.slice A5 y.body.length c5)) _ _ rfl rfl hb6 (by simp [zq, reqC]) (info_reqC _ _) (by simp [reqC, Value.oneCell']) ?_); intro w7 hb7 hk7 hs7; rw [put_whole (by rfl)] at hb7; have HK7 := Lib.hid (fresh_set (Keeps.refl _ w5) hk6 hk7); have HB7 := Lib.hid hb7; have HK57 := Lib.hid (HK5.out.trans HK7.out (fun _ _ h => h)); have HKx := Lib.hid (((HK13.out.mono (S' := fun k => k = w2.heap.size) (fun _ _ h => h.elim)).trans HK4.out (fun _ _ h => h)).trans HK57.out (fun _ _ h => h.elim)); have hz2 : w.heap.size < w2.heap.size := (by have := HK2.out.size; omega); have HK07 := Lib.hid (((HK1.out.mono (S' := fun k => w.heap.size ≤ k) (fun _ _ h => h.elim)).trans HKx.out (fun k _ h => by omega)).mono (S' := fun _ => False) (fun k hk h => by omega)); have d0 := HKx.out.cell HC0.out (fun h => by have h2 : w.heap.size = w2.heap.size := h; omega); have d1 := HKx.out.cell HC1.out (fun h => by have h2 : w.heap.size = w2.heap.size := h; omega); have d2 := HKx.out.cell HC2.out (fun h => by have h2 : w.heap.size = w2.heap.size := h; omega); have d3 := HKx.out.cell HC3.out (fun h => by have h2 : w.heap.size = w2.heap.size := h; omega); have y0 : w7.cell? ⟨w5.heap.size, 0, none⟩ = some (.string (str y.method)) := (cell_of_row w7 _ 0 _ _ _ hb7).trans rfl; have y1 : w7.cell? ⟨w5.heap.size, 1, none⟩ = some (.string (str y.target)) := (cell_of_row w7 _ 1 _ _ _ hb7).trans rfl; have y2 : w7.cell? ⟨w5.heap.size, 2, none⟩ = some (.string (str y.token)) := (cell_of_row w7 _ 2 _ _ _ hb7).trans rfl; have y3 : w7.cell? ⟨w5.heap.size, 3, none⟩ = some (.slice A5 y.body.length c5) := (cell_of_row w7 _ 3 _ _ _ hb7).trans rfl; clear hb7 hb6 hk6 hk7)
                      | (go_at_call 41; refine Rets.use (equal_c (.slice A5 y.body.length c5) (.slice A x.body.length c) y.body x.body HYo.out.body HX.out.body (HO5.out.kept HK7.out (fun _ _ h => h)).rd ((HR.out.lt.mono (ok' := fun k => k < w1.heap.size) (fun k h => h.2)).kept HKx.out (fun k h h' => by have := HK2.out.size; omega))) ?_; rw [HD.out]; rintro _ _ ⟨rfl, rfl⟩))
                    go_ret2
                    rw [HQ.out]
                    exact ⟨HK07.out, .slice A4 (Wire.text x).length c4, rfl, (HR4.out.kept HK57.out (fun _ _ h => h)).mono (fun k h => by have := HK13.out.size; have := HK2.out.size; have := HK3.out.size; omega)⟩
                  · have hd : decide (y.body = x.body) = false := decide_eq_false q4
                    have HD := Lib.hid hd
                    have HQ := Lib.hid (show Wire.printF x = ([], 4) from HQ0.out.trans (if_neg (fun h => q4 (by rw [(Prod.mk.inj h).1]))))
                    clear HQ0 he hn q1 q2 q3 q4 hd
                    go_enter Try.func25, Try.ntmps25
                    go_wp2_with (first
                      | (go_at_call 40; rw [← HW.out]; refine Rets.use (dec_c (x.body.length : Int) (by omega) (by omega) w1) ?_; rw [← HSd.out]; rintro v2 w2 ⟨rfl, hk2⟩; have HK2 := Lib.hid hk2; have c3 := hk2.cell HC3.out (fun h => h))
                      | ((with_reducible refine at_ 57 rfl ?_); rw [← HW2.out]; go_must (refine step_str_mrow2 rfl _ _ _ rfl Try.underlying9 Try.underlying22 Try.underlying5 (Wire.front x) (front_b HX.out) (by rw [← HSf.out]; rfl) ?_); intro cc w3 hm3 hk3; have HM3 := Lib.hid hm3; have HK3 := Lib.hid hk3; have HK13 := Lib.hid (HK2.out.trans hk3 (fun _ _ h => h)); have c3 := HK13.out.cell HC3.out (fun h => h); clear hm3)
                      | ((with_reducible refine at_ 60 rfl ?_); go_must (refine step_append_m rfl _ _ _ rfl Try.underlying22 row_byte w2.heap.size cc (Wire.front x) x.body rfl HM3.out (.slice A x.body.length c) rfl (HR.out.kept HK13.out (fun _ _ h => h)) (by have := front_len HF.out; omega) ?_); intro v4 w4 hr4 hk4; have HR4 := Lib.hid (show Rd w4 _ v4 (Wire.text x).length (Disk.bytes8 (Wire.text x)) from hr4); obtain ⟨A4, c4, hv4, _⟩ := hr4.slice; replace hv4 : v4 = .slice A4 (Wire.text x).length c4 := hv4; subst hv4; have HK4 := Lib.hid hk4; clear hr4)
                      | (go_at_call 13; refine Rets.use (wholeW_c (.slice A4 (Wire.text x).length c4) (Wire.text x) HR4.out (by omega) (text_b HX.out)) ?_; rw [HTT.out]; rintro v5 w5 ⟨hk5, u5, rfl, hO5⟩; have HO5 := Lib.hid hO5; obtain ⟨A5, c5, rfl, _⟩ := hO5.slice; have HK5 := Lib.hid hk5; clear hO5)
                      | ((with_reducible refine at_ 6 rfl ?_); go_must (refine step_alloc rfl _ rfl _ zq row_req rfl ?_); intro w6 hb6 hk6 hs6)
                      | ((with_reducible refine at_store 26 (.tmp 6) (.tmp 64) rfl ?_); go_must (refine step_store rfl _ _ _ rfl w5.heap.size 0 (reqC y (.slice A5 y.body.length c5)) _ _ rfl rfl hb6 (by simp [zq, reqC]) (info_reqC _ _) (by simp [reqC, Value.oneCell']) ?_); intro w7 hb7 hk7 hs7; rw [put_whole (by rfl)] at hb7; have HK7 := Lib.hid (fresh_set (Keeps.refl _ w5) hk6 hk7); have HB7 := Lib.hid hb7; have HK57 := Lib.hid (HK5.out.trans HK7.out (fun _ _ h => h)); have HKx := Lib.hid (((HK13.out.mono (S' := fun k => k = w2.heap.size) (fun _ _ h => h.elim)).trans HK4.out (fun _ _ h => h)).trans HK57.out (fun _ _ h => h.elim)); have hz2 : w.heap.size < w2.heap.size := (by have := HK2.out.size; omega); have HK07 := Lib.hid (((HK1.out.mono (S' := fun k => w.heap.size ≤ k) (fun _ _ h => h.elim)).trans HKx.out (fun k _ h => by omega)).mono (S' := fun _ => False) (fun k hk h => by omega)); have d0 := HKx.out.cell HC0.out (fun h => by have h2 : w.heap.size = w2.heap.size := h; omega); have d1 := HKx.out.cell HC1.out (fun h => by have h2 : w.heap.size = w2.heap.size := h; omega); have d2 := HKx.out.cell HC2.out (fun h => by have h2 : w.heap.size = w2.heap.size := h; omega); have d3 := HKx.out.cell HC3.out (fun h => by have h2 : w.heap.size = w2.heap.size := h; omega); have y0 : w7.cell? ⟨w5.heap.size, 0, none⟩ = some (.string (str y.method)) := (cell_of_row w7 _ 0 _ _ _ hb7).trans rfl; have y1 : w7.cell? ⟨w5.heap.size, 1, none⟩ = some (.string (str y.target)) := (cell_of_row w7 _ 1 _ _ _ hb7).trans rfl; have y2 : w7.cell? ⟨w5.heap.size, 2, none⟩ = some (.string (str y.token)) := (cell_of_row w7 _ 2 _ _ _ hb7).trans rfl; have y3 : w7.cell? ⟨w5.heap.size, 3, none⟩ = some (.slice A5 y.body.length c5) := (cell_of_row w7 _ 3 _ _ _ hb7).trans rfl; clear hb7 hb6 hk6 hk7)
                      | (go_at_call 41; refine Rets.use (equal_c (.slice A5 y.body.length c5) (.slice A x.body.length c) y.body x.body HYo.out.body HX.out.body (HO5.out.kept HK7.out (fun _ _ h => h)).rd ((HR.out.lt.mono (ok' := fun k => k < w1.heap.size) (fun k h => h.2)).kept HKx.out (fun k h h' => by have := HK2.out.size; omega))) ?_; rw [HD.out]; rintro _ _ ⟨rfl, rfl⟩))
                    go_ret2
                    rw [HQ.out]
                    exact ⟨HK07.out, .slice none 0 0, rfl, Rd.nil _ _⟩
                · rw [decide_eq_false q3] at e3
                  have HQ := Lib.hid (show Wire.printF x = ([], 4) from HQ0.out.trans (if_neg (fun h => q3 (by rw [(Prod.mk.inj h).1]))))
                  clear HQ0 he hn q1 q2 q3
                  go_enter Try.func25, Try.ntmps25
                  go_wp2_with (first
                    | (go_at_call 40; rw [← HW.out]; refine Rets.use (dec_c (x.body.length : Int) (by omega) (by omega) w1) ?_; rw [← HSd.out]; rintro v2 w2 ⟨rfl, hk2⟩; have HK2 := Lib.hid hk2; have c3 := hk2.cell HC3.out (fun h => h))
                    | ((with_reducible refine at_ 57 rfl ?_); rw [← HW2.out]; go_must (refine step_str_mrow2 rfl _ _ _ rfl Try.underlying9 Try.underlying22 Try.underlying5 (Wire.front x) (front_b HX.out) (by rw [← HSf.out]; rfl) ?_); intro cc w3 hm3 hk3; have HM3 := Lib.hid hm3; have HK3 := Lib.hid hk3; have HK13 := Lib.hid (HK2.out.trans hk3 (fun _ _ h => h)); have c3 := HK13.out.cell HC3.out (fun h => h); clear hm3)
                    | ((with_reducible refine at_ 60 rfl ?_); go_must (refine step_append_m rfl _ _ _ rfl Try.underlying22 row_byte w2.heap.size cc (Wire.front x) x.body rfl HM3.out (.slice A x.body.length c) rfl (HR.out.kept HK13.out (fun _ _ h => h)) (by have := front_len HF.out; omega) ?_); intro v4 w4 hr4 hk4; have HR4 := Lib.hid (show Rd w4 _ v4 (Wire.text x).length (Disk.bytes8 (Wire.text x)) from hr4); obtain ⟨A4, c4, hv4, _⟩ := hr4.slice; replace hv4 : v4 = .slice A4 (Wire.text x).length c4 := hv4; subst hv4; have HK4 := Lib.hid hk4; clear hr4)
                    | (go_at_call 13; refine Rets.use (wholeW_c (.slice A4 (Wire.text x).length c4) (Wire.text x) HR4.out (by omega) (text_b HX.out)) ?_; rw [HTT.out]; rintro v5 w5 ⟨hk5, u5, rfl, hO5⟩; have HO5 := Lib.hid hO5; obtain ⟨A5, c5, rfl, _⟩ := hO5.slice; have HK5 := Lib.hid hk5; clear hO5)
                    | ((with_reducible refine at_ 6 rfl ?_); go_must (refine step_alloc rfl _ rfl _ zq row_req rfl ?_); intro w6 hb6 hk6 hs6)
                    | ((with_reducible refine at_store 26 (.tmp 6) (.tmp 64) rfl ?_); go_must (refine step_store rfl _ _ _ rfl w5.heap.size 0 (reqC y (.slice A5 y.body.length c5)) _ _ rfl rfl hb6 (by simp [zq, reqC]) (info_reqC _ _) (by simp [reqC, Value.oneCell']) ?_); intro w7 hb7 hk7 hs7; rw [put_whole (by rfl)] at hb7; have HK7 := Lib.hid (fresh_set (Keeps.refl _ w5) hk6 hk7); have HB7 := Lib.hid hb7; have HK57 := Lib.hid (HK5.out.trans HK7.out (fun _ _ h => h)); have HKx := Lib.hid (((HK13.out.mono (S' := fun k => k = w2.heap.size) (fun _ _ h => h.elim)).trans HK4.out (fun _ _ h => h)).trans HK57.out (fun _ _ h => h.elim)); have hz2 : w.heap.size < w2.heap.size := (by have := HK2.out.size; omega); have HK07 := Lib.hid (((HK1.out.mono (S' := fun k => w.heap.size ≤ k) (fun _ _ h => h.elim)).trans HKx.out (fun k _ h => by omega)).mono (S' := fun _ => False) (fun k hk h => by omega)); have d0 := HKx.out.cell HC0.out (fun h => by have h2 : w.heap.size = w2.heap.size := h; omega); have d1 := HKx.out.cell HC1.out (fun h => by have h2 : w.heap.size = w2.heap.size := h; omega); have d2 := HKx.out.cell HC2.out (fun h => by have h2 : w.heap.size = w2.heap.size := h; omega); have d3 := HKx.out.cell HC3.out (fun h => by have h2 : w.heap.size = w2.heap.size := h; omega); have y0 : w7.cell? ⟨w5.heap.size, 0, none⟩ = some (.string (str y.method)) := (cell_of_row w7 _ 0 _ _ _ hb7).trans rfl; have y1 : w7.cell? ⟨w5.heap.size, 1, none⟩ = some (.string (str y.target)) := (cell_of_row w7 _ 1 _ _ _ hb7).trans rfl; have y2 : w7.cell? ⟨w5.heap.size, 2, none⟩ = some (.string (str y.token)) := (cell_of_row w7 _ 2 _ _ _ hb7).trans rfl; have y3 : w7.cell? ⟨w5.heap.size, 3, none⟩ = some (.slice A5 y.body.length c5) := (cell_of_row w7 _ 3 _ _ _ hb7).trans rfl; clear hb7 hb6 hk6 hk7)
                    | (go_at_call 41; refine Rets.use (equal_c (.slice A5 y.body.length c5) (.slice A x.body.length c) y.body x.body HYo.out.body HX.out.body (HO5.out.kept HK7.out (fun _ _ h => h)).rd ((HR.out.lt.mono (ok' := fun k => k < w1.heap.size) (fun k h => h.2)).kept HKx.out (fun k h h' => by have := HK2.out.size; omega))) ?_; rw [HD.out]; rintro _ _ ⟨rfl, rfl⟩))
                  go_ret2
                  rw [HQ.out]
                  exact ⟨HK07.out, .slice none 0 0, rfl, Rd.nil _ _⟩
              · rw [decide_eq_false q2] at e2
                have HQ := Lib.hid (show Wire.printF x = ([], 4) from HQ0.out.trans (if_neg (fun h => q2 (by rw [(Prod.mk.inj h).1]))))
                clear HQ0 he hn q1 q2 e3
                go_enter Try.func25, Try.ntmps25
                go_wp2_with (first
                  | (go_at_call 40; rw [← HW.out]; refine Rets.use (dec_c (x.body.length : Int) (by omega) (by omega) w1) ?_; rw [← HSd.out]; rintro v2 w2 ⟨rfl, hk2⟩; have HK2 := Lib.hid hk2; have c3 := hk2.cell HC3.out (fun h => h))
                  | ((with_reducible refine at_ 57 rfl ?_); rw [← HW2.out]; go_must (refine step_str_mrow2 rfl _ _ _ rfl Try.underlying9 Try.underlying22 Try.underlying5 (Wire.front x) (front_b HX.out) (by rw [← HSf.out]; rfl) ?_); intro cc w3 hm3 hk3; have HM3 := Lib.hid hm3; have HK3 := Lib.hid hk3; have HK13 := Lib.hid (HK2.out.trans hk3 (fun _ _ h => h)); have c3 := HK13.out.cell HC3.out (fun h => h); clear hm3)
                  | ((with_reducible refine at_ 60 rfl ?_); go_must (refine step_append_m rfl _ _ _ rfl Try.underlying22 row_byte w2.heap.size cc (Wire.front x) x.body rfl HM3.out (.slice A x.body.length c) rfl (HR.out.kept HK13.out (fun _ _ h => h)) (by have := front_len HF.out; omega) ?_); intro v4 w4 hr4 hk4; have HR4 := Lib.hid (show Rd w4 _ v4 (Wire.text x).length (Disk.bytes8 (Wire.text x)) from hr4); obtain ⟨A4, c4, hv4, _⟩ := hr4.slice; replace hv4 : v4 = .slice A4 (Wire.text x).length c4 := hv4; subst hv4; have HK4 := Lib.hid hk4; clear hr4)
                  | (go_at_call 13; refine Rets.use (wholeW_c (.slice A4 (Wire.text x).length c4) (Wire.text x) HR4.out (by omega) (text_b HX.out)) ?_; rw [HTT.out]; rintro v5 w5 ⟨hk5, u5, rfl, hO5⟩; have HO5 := Lib.hid hO5; obtain ⟨A5, c5, rfl, _⟩ := hO5.slice; have HK5 := Lib.hid hk5; clear hO5)
                  | ((with_reducible refine at_ 6 rfl ?_); go_must (refine step_alloc rfl _ rfl _ zq row_req rfl ?_); intro w6 hb6 hk6 hs6)
                  | ((with_reducible refine at_store 26 (.tmp 6) (.tmp 64) rfl ?_); go_must (refine step_store rfl _ _ _ rfl w5.heap.size 0 (reqC y (.slice A5 y.body.length c5)) _ _ rfl rfl hb6 (by simp [zq, reqC]) (info_reqC _ _) (by simp [reqC, Value.oneCell']) ?_); intro w7 hb7 hk7 hs7; rw [put_whole (by rfl)] at hb7; have HK7 := Lib.hid (fresh_set (Keeps.refl _ w5) hk6 hk7); have HB7 := Lib.hid hb7; have HK57 := Lib.hid (HK5.out.trans HK7.out (fun _ _ h => h)); have HKx := Lib.hid (((HK13.out.mono (S' := fun k => k = w2.heap.size) (fun _ _ h => h.elim)).trans HK4.out (fun _ _ h => h)).trans HK57.out (fun _ _ h => h.elim)); have hz2 : w.heap.size < w2.heap.size := (by have := HK2.out.size; omega); have HK07 := Lib.hid (((HK1.out.mono (S' := fun k => w.heap.size ≤ k) (fun _ _ h => h.elim)).trans HKx.out (fun k _ h => by omega)).mono (S' := fun _ => False) (fun k hk h => by omega)); have d0 := HKx.out.cell HC0.out (fun h => by have h2 : w.heap.size = w2.heap.size := h; omega); have d1 := HKx.out.cell HC1.out (fun h => by have h2 : w.heap.size = w2.heap.size := h; omega); have d2 := HKx.out.cell HC2.out (fun h => by have h2 : w.heap.size = w2.heap.size := h; omega); have d3 := HKx.out.cell HC3.out (fun h => by have h2 : w.heap.size = w2.heap.size := h; omega); have y0 : w7.cell? ⟨w5.heap.size, 0, none⟩ = some (.string (str y.method)) := (cell_of_row w7 _ 0 _ _ _ hb7).trans rfl; have y1 : w7.cell? ⟨w5.heap.size, 1, none⟩ = some (.string (str y.target)) := (cell_of_row w7 _ 1 _ _ _ hb7).trans rfl; have y2 : w7.cell? ⟨w5.heap.size, 2, none⟩ = some (.string (str y.token)) := (cell_of_row w7 _ 2 _ _ _ hb7).trans rfl; have y3 : w7.cell? ⟨w5.heap.size, 3, none⟩ = some (.slice A5 y.body.length c5) := (cell_of_row w7 _ 3 _ _ _ hb7).trans rfl; clear hb7 hb6 hk6 hk7)
                  | (go_at_call 41; refine Rets.use (equal_c (.slice A5 y.body.length c5) (.slice A x.body.length c) y.body x.body HYo.out.body HX.out.body (HO5.out.kept HK7.out (fun _ _ h => h)).rd ((HR.out.lt.mono (ok' := fun k => k < w1.heap.size) (fun k h => h.2)).kept HKx.out (fun k h h' => by have := HK2.out.size; omega))) ?_; rw [HD.out]; rintro _ _ ⟨rfl, rfl⟩))
                go_ret2
                rw [HQ.out]
                exact ⟨HK07.out, .slice none 0 0, rfl, Rd.nil _ _⟩
            · rw [decide_eq_false q1] at e1
              have HQ := Lib.hid (show Wire.printF x = ([], 4) from HQ0.out.trans (if_neg (fun h => q1 (by rw [(Prod.mk.inj h).1]))))
              clear HQ0 he hn q1 e2 e3
              go_enter Try.func25, Try.ntmps25
              go_wp2_with (first
                | (go_at_call 40; rw [← HW.out]; refine Rets.use (dec_c (x.body.length : Int) (by omega) (by omega) w1) ?_; rw [← HSd.out]; rintro v2 w2 ⟨rfl, hk2⟩; have HK2 := Lib.hid hk2; have c3 := hk2.cell HC3.out (fun h => h))
                | ((with_reducible refine at_ 57 rfl ?_); rw [← HW2.out]; go_must (refine step_str_mrow2 rfl _ _ _ rfl Try.underlying9 Try.underlying22 Try.underlying5 (Wire.front x) (front_b HX.out) (by rw [← HSf.out]; rfl) ?_); intro cc w3 hm3 hk3; have HM3 := Lib.hid hm3; have HK3 := Lib.hid hk3; have HK13 := Lib.hid (HK2.out.trans hk3 (fun _ _ h => h)); have c3 := HK13.out.cell HC3.out (fun h => h); clear hm3)
                | ((with_reducible refine at_ 60 rfl ?_); go_must (refine step_append_m rfl _ _ _ rfl Try.underlying22 row_byte w2.heap.size cc (Wire.front x) x.body rfl HM3.out (.slice A x.body.length c) rfl (HR.out.kept HK13.out (fun _ _ h => h)) (by have := front_len HF.out; omega) ?_); intro v4 w4 hr4 hk4; have HR4 := Lib.hid (show Rd w4 _ v4 (Wire.text x).length (Disk.bytes8 (Wire.text x)) from hr4); obtain ⟨A4, c4, hv4, _⟩ := hr4.slice; replace hv4 : v4 = .slice A4 (Wire.text x).length c4 := hv4; subst hv4; have HK4 := Lib.hid hk4; clear hr4)
                | (go_at_call 13; refine Rets.use (wholeW_c (.slice A4 (Wire.text x).length c4) (Wire.text x) HR4.out (by omega) (text_b HX.out)) ?_; rw [HTT.out]; rintro v5 w5 ⟨hk5, u5, rfl, hO5⟩; have HO5 := Lib.hid hO5; obtain ⟨A5, c5, rfl, _⟩ := hO5.slice; have HK5 := Lib.hid hk5; clear hO5)
                | ((with_reducible refine at_ 6 rfl ?_); go_must (refine step_alloc rfl _ rfl _ zq row_req rfl ?_); intro w6 hb6 hk6 hs6)
                | ((with_reducible refine at_store 26 (.tmp 6) (.tmp 64) rfl ?_); go_must (refine step_store rfl _ _ _ rfl w5.heap.size 0 (reqC y (.slice A5 y.body.length c5)) _ _ rfl rfl hb6 (by simp [zq, reqC]) (info_reqC _ _) (by simp [reqC, Value.oneCell']) ?_); intro w7 hb7 hk7 hs7; rw [put_whole (by rfl)] at hb7; have HK7 := Lib.hid (fresh_set (Keeps.refl _ w5) hk6 hk7); have HB7 := Lib.hid hb7; have HK57 := Lib.hid (HK5.out.trans HK7.out (fun _ _ h => h)); have HKx := Lib.hid (((HK13.out.mono (S' := fun k => k = w2.heap.size) (fun _ _ h => h.elim)).trans HK4.out (fun _ _ h => h)).trans HK57.out (fun _ _ h => h.elim)); have hz2 : w.heap.size < w2.heap.size := (by have := HK2.out.size; omega); have HK07 := Lib.hid (((HK1.out.mono (S' := fun k => w.heap.size ≤ k) (fun _ _ h => h.elim)).trans HKx.out (fun k _ h => by omega)).mono (S' := fun _ => False) (fun k hk h => by omega)); have d0 := HKx.out.cell HC0.out (fun h => by have h2 : w.heap.size = w2.heap.size := h; omega); have d1 := HKx.out.cell HC1.out (fun h => by have h2 : w.heap.size = w2.heap.size := h; omega); have d2 := HKx.out.cell HC2.out (fun h => by have h2 : w.heap.size = w2.heap.size := h; omega); have d3 := HKx.out.cell HC3.out (fun h => by have h2 : w.heap.size = w2.heap.size := h; omega); have y0 : w7.cell? ⟨w5.heap.size, 0, none⟩ = some (.string (str y.method)) := (cell_of_row w7 _ 0 _ _ _ hb7).trans rfl; have y1 : w7.cell? ⟨w5.heap.size, 1, none⟩ = some (.string (str y.target)) := (cell_of_row w7 _ 1 _ _ _ hb7).trans rfl; have y2 : w7.cell? ⟨w5.heap.size, 2, none⟩ = some (.string (str y.token)) := (cell_of_row w7 _ 2 _ _ _ hb7).trans rfl; have y3 : w7.cell? ⟨w5.heap.size, 3, none⟩ = some (.slice A5 y.body.length c5) := (cell_of_row w7 _ 3 _ _ _ hb7).trans rfl; clear hb7 hb6 hk6 hk7)
                | (go_at_call 41; refine Rets.use (equal_c (.slice A5 y.body.length c5) (.slice A x.body.length c) y.body x.body HYo.out.body HX.out.body (HO5.out.kept HK7.out (fun _ _ h => h)).rd ((HR.out.lt.mono (ok' := fun k => k < w1.heap.size) (fun k h => h.2)).kept HKx.out (fun k h h' => by have := HK2.out.size; omega))) ?_; rw [HD.out]; rintro _ _ ⟨rfl, rfl⟩))
              go_ret2
              rw [HQ.out]
              exact ⟨HK07.out, .slice none 0 0, rfl, Rd.nil _ _⟩
          · have hnb : (n != ((Wire.text x).length : Int)) = true := by simpa using hn
            have HQ := Lib.hid (show Wire.printF x = ([], 4) from HQ0.out.trans (if_neg (fun h => hn (Prod.mk.inj (Prod.mk.inj h).2).1)))
            clear HQ0 he hn
            go_enter Try.func25, Try.ntmps25
            go_wp2_with (first
              | (go_at_call 40; rw [← HW.out]; refine Rets.use (dec_c (x.body.length : Int) (by omega) (by omega) w1) ?_; rw [← HSd.out]; rintro v2 w2 ⟨rfl, hk2⟩; have HK2 := Lib.hid hk2; have c3 := hk2.cell HC3.out (fun h => h))
              | ((with_reducible refine at_ 57 rfl ?_); rw [← HW2.out]; go_must (refine step_str_mrow2 rfl _ _ _ rfl Try.underlying9 Try.underlying22 Try.underlying5 (Wire.front x) (front_b HX.out) (by rw [← HSf.out]; rfl) ?_); intro cc w3 hm3 hk3; have HM3 := Lib.hid hm3; have HK3 := Lib.hid hk3; have HK13 := Lib.hid (HK2.out.trans hk3 (fun _ _ h => h)); have c3 := HK13.out.cell HC3.out (fun h => h); clear hm3)
              | ((with_reducible refine at_ 60 rfl ?_); go_must (refine step_append_m rfl _ _ _ rfl Try.underlying22 row_byte w2.heap.size cc (Wire.front x) x.body rfl HM3.out (.slice A x.body.length c) rfl (HR.out.kept HK13.out (fun _ _ h => h)) (by have := front_len HF.out; omega) ?_); intro v4 w4 hr4 hk4; have HR4 := Lib.hid (show Rd w4 _ v4 (Wire.text x).length (Disk.bytes8 (Wire.text x)) from hr4); obtain ⟨A4, c4, hv4, _⟩ := hr4.slice; replace hv4 : v4 = .slice A4 (Wire.text x).length c4 := hv4; subst hv4; have HK4 := Lib.hid hk4; clear hr4)
              | (go_at_call 13; refine Rets.use (wholeW_c (.slice A4 (Wire.text x).length c4) (Wire.text x) HR4.out (by omega) (text_b HX.out)) ?_; rw [HTT.out]; rintro v5 w5 ⟨hk5, u5, rfl, hO5⟩; have HO5 := Lib.hid hO5; obtain ⟨A5, c5, rfl, _⟩ := hO5.slice; have HK5 := Lib.hid hk5; clear hO5)
              | ((with_reducible refine at_ 6 rfl ?_); go_must (refine step_alloc rfl _ rfl _ zq row_req rfl ?_); intro w6 hb6 hk6 hs6)
              | ((with_reducible refine at_store 26 (.tmp 6) (.tmp 64) rfl ?_); go_must (refine step_store rfl _ _ _ rfl w5.heap.size 0 (reqC y (.slice A5 y.body.length c5)) _ _ rfl rfl hb6 (by simp [zq, reqC]) (info_reqC _ _) (by simp [reqC, Value.oneCell']) ?_); intro w7 hb7 hk7 hs7; rw [put_whole (by rfl)] at hb7; have HK7 := Lib.hid (fresh_set (Keeps.refl _ w5) hk6 hk7); have HB7 := Lib.hid hb7; have HK57 := Lib.hid (HK5.out.trans HK7.out (fun _ _ h => h)); have HKx := Lib.hid (((HK13.out.mono (S' := fun k => k = w2.heap.size) (fun _ _ h => h.elim)).trans HK4.out (fun _ _ h => h)).trans HK57.out (fun _ _ h => h.elim)); have hz2 : w.heap.size < w2.heap.size := (by have := HK2.out.size; omega); have HK07 := Lib.hid (((HK1.out.mono (S' := fun k => w.heap.size ≤ k) (fun _ _ h => h.elim)).trans HKx.out (fun k _ h => by omega)).mono (S' := fun _ => False) (fun k hk h => by omega)); have d0 := HKx.out.cell HC0.out (fun h => by have h2 : w.heap.size = w2.heap.size := h; omega); have d1 := HKx.out.cell HC1.out (fun h => by have h2 : w.heap.size = w2.heap.size := h; omega); have d2 := HKx.out.cell HC2.out (fun h => by have h2 : w.heap.size = w2.heap.size := h; omega); have d3 := HKx.out.cell HC3.out (fun h => by have h2 : w.heap.size = w2.heap.size := h; omega); have y0 : w7.cell? ⟨w5.heap.size, 0, none⟩ = some (.string (str y.method)) := (cell_of_row w7 _ 0 _ _ _ hb7).trans rfl; have y1 : w7.cell? ⟨w5.heap.size, 1, none⟩ = some (.string (str y.target)) := (cell_of_row w7 _ 1 _ _ _ hb7).trans rfl; have y2 : w7.cell? ⟨w5.heap.size, 2, none⟩ = some (.string (str y.token)) := (cell_of_row w7 _ 2 _ _ _ hb7).trans rfl; have y3 : w7.cell? ⟨w5.heap.size, 3, none⟩ = some (.slice A5 y.body.length c5) := (cell_of_row w7 _ 3 _ _ _ hb7).trans rfl; clear hb7 hb6 hk6 hk7)
              | (go_at_call 41; refine Rets.use (equal_c (.slice A5 y.body.length c5) (.slice A x.body.length c) y.body x.body HYo.out.body HX.out.body (HO5.out.kept HK7.out (fun _ _ h => h)).rd ((HR.out.lt.mono (ok' := fun k => k < w1.heap.size) (fun k h => h.2)).kept HKx.out (fun k h h' => by have := HK2.out.size; omega))) ?_; rw [HD.out]; rintro _ _ ⟨rfl, rfl⟩))
            go_ret2
            rw [HQ.out]
            exact ⟨HK07.out, .slice none 0 0, rfl, Rd.nil _ _⟩
        · have heb : (e != 0) = true := by simpa using he
          have HQ := Lib.hid (show Wire.printF x = ([], 4) from HQ0.out.trans (if_neg (fun h => he (Prod.mk.inj (Prod.mk.inj h).2).2)))
          clear HQ0 he
          go_enter Try.func25, Try.ntmps25
          go_wp2_with (first
            | (go_at_call 40; rw [← HW.out]; refine Rets.use (dec_c (x.body.length : Int) (by omega) (by omega) w1) ?_; rw [← HSd.out]; rintro v2 w2 ⟨rfl, hk2⟩; have HK2 := Lib.hid hk2; have c3 := hk2.cell HC3.out (fun h => h))
            | ((with_reducible refine at_ 57 rfl ?_); rw [← HW2.out]; go_must (refine step_str_mrow2 rfl _ _ _ rfl Try.underlying9 Try.underlying22 Try.underlying5 (Wire.front x) (front_b HX.out) (by rw [← HSf.out]; rfl) ?_); intro cc w3 hm3 hk3; have HM3 := Lib.hid hm3; have HK3 := Lib.hid hk3; have HK13 := Lib.hid (HK2.out.trans hk3 (fun _ _ h => h)); have c3 := HK13.out.cell HC3.out (fun h => h); clear hm3)
            | ((with_reducible refine at_ 60 rfl ?_); go_must (refine step_append_m rfl _ _ _ rfl Try.underlying22 row_byte w2.heap.size cc (Wire.front x) x.body rfl HM3.out (.slice A x.body.length c) rfl (HR.out.kept HK13.out (fun _ _ h => h)) (by have := front_len HF.out; omega) ?_); intro v4 w4 hr4 hk4; have HR4 := Lib.hid (show Rd w4 _ v4 (Wire.text x).length (Disk.bytes8 (Wire.text x)) from hr4); obtain ⟨A4, c4, hv4, _⟩ := hr4.slice; replace hv4 : v4 = .slice A4 (Wire.text x).length c4 := hv4; subst hv4; have HK4 := Lib.hid hk4; clear hr4)
            | (go_at_call 13; refine Rets.use (wholeW_c (.slice A4 (Wire.text x).length c4) (Wire.text x) HR4.out (by omega) (text_b HX.out)) ?_; rw [HTT.out]; rintro v5 w5 ⟨hk5, u5, rfl, hO5⟩; have HO5 := Lib.hid hO5; obtain ⟨A5, c5, rfl, _⟩ := hO5.slice; have HK5 := Lib.hid hk5; clear hO5)
            | ((with_reducible refine at_ 6 rfl ?_); go_must (refine step_alloc rfl _ rfl _ zq row_req rfl ?_); intro w6 hb6 hk6 hs6)
            | ((with_reducible refine at_store 26 (.tmp 6) (.tmp 64) rfl ?_); go_must (refine step_store rfl _ _ _ rfl w5.heap.size 0 (reqC y (.slice A5 y.body.length c5)) _ _ rfl rfl hb6 (by simp [zq, reqC]) (info_reqC _ _) (by simp [reqC, Value.oneCell']) ?_); intro w7 hb7 hk7 hs7; rw [put_whole (by rfl)] at hb7; have HK7 := Lib.hid (fresh_set (Keeps.refl _ w5) hk6 hk7); have HB7 := Lib.hid hb7; have HK57 := Lib.hid (HK5.out.trans HK7.out (fun _ _ h => h)); have HKx := Lib.hid (((HK13.out.mono (S' := fun k => k = w2.heap.size) (fun _ _ h => h.elim)).trans HK4.out (fun _ _ h => h)).trans HK57.out (fun _ _ h => h.elim)); have hz2 : w.heap.size < w2.heap.size := (by have := HK2.out.size; omega); have HK07 := Lib.hid (((HK1.out.mono (S' := fun k => w.heap.size ≤ k) (fun _ _ h => h.elim)).trans HKx.out (fun k _ h => by omega)).mono (S' := fun _ => False) (fun k hk h => by omega)); have d0 := HKx.out.cell HC0.out (fun h => by have h2 : w.heap.size = w2.heap.size := h; omega); have d1 := HKx.out.cell HC1.out (fun h => by have h2 : w.heap.size = w2.heap.size := h; omega); have d2 := HKx.out.cell HC2.out (fun h => by have h2 : w.heap.size = w2.heap.size := h; omega); have d3 := HKx.out.cell HC3.out (fun h => by have h2 : w.heap.size = w2.heap.size := h; omega); have y0 : w7.cell? ⟨w5.heap.size, 0, none⟩ = some (.string (str y.method)) := (cell_of_row w7 _ 0 _ _ _ hb7).trans rfl; have y1 : w7.cell? ⟨w5.heap.size, 1, none⟩ = some (.string (str y.target)) := (cell_of_row w7 _ 1 _ _ _ hb7).trans rfl; have y2 : w7.cell? ⟨w5.heap.size, 2, none⟩ = some (.string (str y.token)) := (cell_of_row w7 _ 2 _ _ _ hb7).trans rfl; have y3 : w7.cell? ⟨w5.heap.size, 3, none⟩ = some (.slice A5 y.body.length c5) := (cell_of_row w7 _ 3 _ _ _ hb7).trans rfl; clear hb7 hb6 hk6 hk7)
            | (go_at_call 41; refine Rets.use (equal_c (.slice A5 y.body.length c5) (.slice A x.body.length c) y.body x.body HYo.out.body HX.out.body (HO5.out.kept HK7.out (fun _ _ h => h)).rd ((HR.out.lt.mono (ok' := fun k => k < w1.heap.size) (fun k h => h.2)).kept HKx.out (fun k h h' => by have := HK2.out.size; omega))) ?_; rw [HD.out]; rintro _ _ ⟨rfl, rfl⟩))
          go_ret2
          rw [HQ.out]
          exact ⟨HK07.out, .slice none 0 0, rfl, Rd.nil _ _⟩
      · have hbl : 0 < x.body.length := by cases h : x.body with | nil => exact (hb h).elim | cons => simp
        obtain ⟨sd, hsd⟩ : ∃ s, s = str (decF (x.body.length : Int)) := ⟨_, rfl⟩
        obtain ⟨s8, hs8'⟩ : ∃ s, s = str (Wire.kL ++ decF (x.body.length : Int)) := ⟨_, rfl⟩
        obtain ⟨s9, hs9'⟩ : ∃ s, s = str ((Wire.kL ++ decF (x.body.length : Int)) ++ Wire.crlf) := ⟨_, rfl⟩
        obtain ⟨s5, hs5'⟩ : ∃ s, s = str (Wire.withL x) := ⟨_, rfl⟩
        have hdl := dec_len (x.body.length : Int)
        have b1 : ∀ w', (Op.stringOp .add ⟨#[67, 111, 110, 116, 101, 110, 116, 45, 76, 101, 110, 103, 116, 104, 58, 32]⟩ sd).run Try.prog w' = .ok (.string s8) w' := fun w' => by rw [hs8', hsd]; exact add_str (a := Wire.kL) (by simp only [Wire.kL, List.length_cons, List.length_nil]; omega) w'
        have b2 : ∀ w', (Op.stringOp .add s8 ⟨#[13, 10]⟩).run Try.prog w' = .ok (.string s9) w' := fun w' => by rw [hs8', hs9']; exact add_str (b := Wire.crlf) (by simp only [Wire.kL, Wire.crlf, List.length_append, List.length_cons, List.length_nil]; omega) w'
        have b3 : ∀ w', (Op.stringOp .add s4 s9).run Try.prog w' = .ok (.string s5) w' := fun w' => by rw [hs4', hs9', hs5']; unfold Wire.withL; rw [if_neg hb]; exact add_str (by simp only [Wire.kL, Wire.crlf, List.length_append, List.length_cons, List.length_nil]; omega) w'
        have hll : (Wire.withL x).length ≤ 1800 := by unfold Wire.withL Wire.kL Wire.crlf; rw [if_neg hb]; simp only [List.length_append, List.length_cons, List.length_nil]; omega
        have ae : ∀ w', (Op.stringOp .add s5 ⟨#[13, 10]⟩).run Try.prog w' = .ok (.string sf) w' := fun w' => by rw [hs5', hsf]; exact add_str (b := Wire.crlf) (by simp only [Wire.crlf, List.length_cons, List.length_nil]; omega) w'
        have HSd := Lib.hid hsd
        clear hw1 hb1 hr hx hf hsm hst hsk hs1' hs2' hs3' hs4' hsf hsd hs8' hs9' hs5' ht hb hk1 hdl
        obtain ⟨t, htt⟩ : ∃ t, Wire.whole (Wire.text x) = t := ⟨_, rfl⟩
        have HTT := Lib.hid htt
        have htl : (Wire.text x).length ≤ 4100 := by have := front_len HF.out; unfold Wire.text; rw [List.length_append]; omega
        have hgd := whole_good (Wire.text x) (text_b HX.out)
        rw [htt] at hgd
        have HYo := Lib.hid hgd.1
        obtain ⟨y, n, e⟩ := t
        rw [htt] at HQ0
        have HTl := Lib.hid (rfl : (Wire.text x).length = (Wire.text x).length)
        clear htt hgd
        by_cases he : e = 0
        · have heb : (e != 0) = false := by rw [he]; rfl
          by_cases hn : n = ((Wire.text x).length : Int)
          · have hnb : (n != ((Wire.text x).length : Int)) = false := by rw [hn]; simp
            have e1 := str_eq HYo.out.method HX.out.method
            have e2 := str_eq HYo.out.target HX.out.target
            have e3 := str_eq HYo.out.token HX.out.token
            rw [← HSm.out] at e1
            rw [← HSt.out] at e2
            rw [← HSk.out] at e3
            by_cases q1 : y.method = x.method
            · rw [decide_eq_true q1] at e1
              by_cases q2 : y.target = x.target
              · rw [decide_eq_true q2] at e2
                by_cases q3 : y.token = x.token
                · rw [decide_eq_true q3] at e3
                  by_cases q4 : y.body = x.body
                  · have hd : decide (y.body = x.body) = true := decide_eq_true q4
                    have HD := Lib.hid hd
                    have HQ := Lib.hid (show Wire.printF x = (Wire.text x, 0) from HQ0.out.trans (if_pos (by rw [Prod.mk.injEq, Prod.mk.injEq]; exact ⟨ReqP.same.mpr ⟨q1, q2, q3, q4⟩, hn, he⟩)))
                    clear HQ0 he hn q1 q2 q3 q4 hd
                    go_enter Try.func25, Try.ntmps25
                    go_wp2_with (first
                      | (go_at_call 40; rw [← HW.out]; refine Rets.use (dec_c (x.body.length : Int) (by omega) (by omega) w1) ?_; rw [← HSd.out]; rintro v2 w2 ⟨rfl, hk2⟩; have HK2 := Lib.hid hk2; have c3 := hk2.cell HC3.out (fun h => h))
                      | ((with_reducible refine at_ 57 rfl ?_); go_must (refine step_str_mrow2 rfl _ _ _ rfl Try.underlying9 Try.underlying22 Try.underlying5 (Wire.front x) (front_b HX.out) (by rw [← HSf.out]; rfl) ?_); intro cc w3 hm3 hk3; have HM3 := Lib.hid hm3; have HK3 := Lib.hid hk3; have HK13 := Lib.hid (HK2.out.trans hk3 (fun _ _ h => h)); have c3 := HK13.out.cell HC3.out (fun h => h); clear hm3)
                      | ((with_reducible refine at_ 60 rfl ?_); go_must (refine step_append_m rfl _ _ _ rfl Try.underlying22 row_byte w2.heap.size cc (Wire.front x) x.body rfl HM3.out (.slice A x.body.length c) rfl (HR.out.kept HK13.out (fun _ _ h => h)) (by have := front_len HF.out; omega) ?_); intro v4 w4 hr4 hk4; have HR4 := Lib.hid (show Rd w4 _ v4 (Wire.text x).length (Disk.bytes8 (Wire.text x)) from hr4); obtain ⟨A4, c4, hv4, _⟩ := hr4.slice; replace hv4 : v4 = .slice A4 (Wire.text x).length c4 := hv4; subst hv4; have HK4 := Lib.hid hk4; clear hr4)
                      | (go_at_call 13; refine Rets.use (wholeW_c (.slice A4 (Wire.text x).length c4) (Wire.text x) HR4.out (by omega) (text_b HX.out)) ?_; rw [HTT.out]; rintro v5 w5 ⟨hk5, u5, rfl, hO5⟩; have HO5 := Lib.hid hO5; obtain ⟨A5, c5, rfl, _⟩ := hO5.slice; have HK5 := Lib.hid hk5; clear hO5)
                      | ((with_reducible refine at_ 6 rfl ?_); go_must (refine step_alloc rfl _ rfl _ zq row_req rfl ?_); intro w6 hb6 hk6 hs6)
                      | ((with_reducible refine at_store 26 (.tmp 6) (.tmp 64) rfl ?_); go_must (refine step_store rfl _ _ _ rfl w5.heap.size 0 (reqC y (.slice A5 y.body.length c5)) _ _ rfl rfl hb6 (by simp [zq, reqC]) (info_reqC _ _) (by simp [reqC, Value.oneCell']) ?_); intro w7 hb7 hk7 hs7; rw [put_whole (by rfl)] at hb7; have HK7 := Lib.hid (fresh_set (Keeps.refl _ w5) hk6 hk7); have HB7 := Lib.hid hb7; have HK57 := Lib.hid (HK5.out.trans HK7.out (fun _ _ h => h)); have HKx := Lib.hid (((HK13.out.mono (S' := fun k => k = w2.heap.size) (fun _ _ h => h.elim)).trans HK4.out (fun _ _ h => h)).trans HK57.out (fun _ _ h => h.elim)); have hz2 : w.heap.size < w2.heap.size := (by have := HK2.out.size; omega); have HK07 := Lib.hid (((HK1.out.mono (S' := fun k => w.heap.size ≤ k) (fun _ _ h => h.elim)).trans HKx.out (fun k _ h => by omega)).mono (S' := fun _ => False) (fun k hk h => by omega)); have d0 := HKx.out.cell HC0.out (fun h => by have h2 : w.heap.size = w2.heap.size := h; omega); have d1 := HKx.out.cell HC1.out (fun h => by have h2 : w.heap.size = w2.heap.size := h; omega); have d2 := HKx.out.cell HC2.out (fun h => by have h2 : w.heap.size = w2.heap.size := h; omega); have d3 := HKx.out.cell HC3.out (fun h => by have h2 : w.heap.size = w2.heap.size := h; omega); have y0 : w7.cell? ⟨w5.heap.size, 0, none⟩ = some (.string (str y.method)) := (cell_of_row w7 _ 0 _ _ _ hb7).trans rfl; have y1 : w7.cell? ⟨w5.heap.size, 1, none⟩ = some (.string (str y.target)) := (cell_of_row w7 _ 1 _ _ _ hb7).trans rfl; have y2 : w7.cell? ⟨w5.heap.size, 2, none⟩ = some (.string (str y.token)) := (cell_of_row w7 _ 2 _ _ _ hb7).trans rfl; have y3 : w7.cell? ⟨w5.heap.size, 3, none⟩ = some (.slice A5 y.body.length c5) := (cell_of_row w7 _ 3 _ _ _ hb7).trans rfl; clear hb7 hb6 hk6 hk7)
                      | (go_at_call 41; refine Rets.use (equal_c (.slice A5 y.body.length c5) (.slice A x.body.length c) y.body x.body HYo.out.body HX.out.body (HO5.out.kept HK7.out (fun _ _ h => h)).rd ((HR.out.lt.mono (ok' := fun k => k < w1.heap.size) (fun k h => h.2)).kept HKx.out (fun k h h' => by have := HK2.out.size; omega))) ?_; rw [HD.out]; rintro _ _ ⟨rfl, rfl⟩))
                    go_ret2
                    rw [HQ.out]
                    exact ⟨HK07.out, .slice A4 (Wire.text x).length c4, rfl, (HR4.out.kept HK57.out (fun _ _ h => h)).mono (fun k h => by have := HK13.out.size; have := HK2.out.size; have := HK3.out.size; omega)⟩
                  · have hd : decide (y.body = x.body) = false := decide_eq_false q4
                    have HD := Lib.hid hd
                    have HQ := Lib.hid (show Wire.printF x = ([], 4) from HQ0.out.trans (if_neg (fun h => q4 (by rw [(Prod.mk.inj h).1]))))
                    clear HQ0 he hn q1 q2 q3 q4 hd
                    go_enter Try.func25, Try.ntmps25
                    go_wp2_with (first
                      | (go_at_call 40; rw [← HW.out]; refine Rets.use (dec_c (x.body.length : Int) (by omega) (by omega) w1) ?_; rw [← HSd.out]; rintro v2 w2 ⟨rfl, hk2⟩; have HK2 := Lib.hid hk2; have c3 := hk2.cell HC3.out (fun h => h))
                      | ((with_reducible refine at_ 57 rfl ?_); go_must (refine step_str_mrow2 rfl _ _ _ rfl Try.underlying9 Try.underlying22 Try.underlying5 (Wire.front x) (front_b HX.out) (by rw [← HSf.out]; rfl) ?_); intro cc w3 hm3 hk3; have HM3 := Lib.hid hm3; have HK3 := Lib.hid hk3; have HK13 := Lib.hid (HK2.out.trans hk3 (fun _ _ h => h)); have c3 := HK13.out.cell HC3.out (fun h => h); clear hm3)
                      | ((with_reducible refine at_ 60 rfl ?_); go_must (refine step_append_m rfl _ _ _ rfl Try.underlying22 row_byte w2.heap.size cc (Wire.front x) x.body rfl HM3.out (.slice A x.body.length c) rfl (HR.out.kept HK13.out (fun _ _ h => h)) (by have := front_len HF.out; omega) ?_); intro v4 w4 hr4 hk4; have HR4 := Lib.hid (show Rd w4 _ v4 (Wire.text x).length (Disk.bytes8 (Wire.text x)) from hr4); obtain ⟨A4, c4, hv4, _⟩ := hr4.slice; replace hv4 : v4 = .slice A4 (Wire.text x).length c4 := hv4; subst hv4; have HK4 := Lib.hid hk4; clear hr4)
                      | (go_at_call 13; refine Rets.use (wholeW_c (.slice A4 (Wire.text x).length c4) (Wire.text x) HR4.out (by omega) (text_b HX.out)) ?_; rw [HTT.out]; rintro v5 w5 ⟨hk5, u5, rfl, hO5⟩; have HO5 := Lib.hid hO5; obtain ⟨A5, c5, rfl, _⟩ := hO5.slice; have HK5 := Lib.hid hk5; clear hO5)
                      | ((with_reducible refine at_ 6 rfl ?_); go_must (refine step_alloc rfl _ rfl _ zq row_req rfl ?_); intro w6 hb6 hk6 hs6)
                      | ((with_reducible refine at_store 26 (.tmp 6) (.tmp 64) rfl ?_); go_must (refine step_store rfl _ _ _ rfl w5.heap.size 0 (reqC y (.slice A5 y.body.length c5)) _ _ rfl rfl hb6 (by simp [zq, reqC]) (info_reqC _ _) (by simp [reqC, Value.oneCell']) ?_); intro w7 hb7 hk7 hs7; rw [put_whole (by rfl)] at hb7; have HK7 := Lib.hid (fresh_set (Keeps.refl _ w5) hk6 hk7); have HB7 := Lib.hid hb7; have HK57 := Lib.hid (HK5.out.trans HK7.out (fun _ _ h => h)); have HKx := Lib.hid (((HK13.out.mono (S' := fun k => k = w2.heap.size) (fun _ _ h => h.elim)).trans HK4.out (fun _ _ h => h)).trans HK57.out (fun _ _ h => h.elim)); have hz2 : w.heap.size < w2.heap.size := (by have := HK2.out.size; omega); have HK07 := Lib.hid (((HK1.out.mono (S' := fun k => w.heap.size ≤ k) (fun _ _ h => h.elim)).trans HKx.out (fun k _ h => by omega)).mono (S' := fun _ => False) (fun k hk h => by omega)); have d0 := HKx.out.cell HC0.out (fun h => by have h2 : w.heap.size = w2.heap.size := h; omega); have d1 := HKx.out.cell HC1.out (fun h => by have h2 : w.heap.size = w2.heap.size := h; omega); have d2 := HKx.out.cell HC2.out (fun h => by have h2 : w.heap.size = w2.heap.size := h; omega); have d3 := HKx.out.cell HC3.out (fun h => by have h2 : w.heap.size = w2.heap.size := h; omega); have y0 : w7.cell? ⟨w5.heap.size, 0, none⟩ = some (.string (str y.method)) := (cell_of_row w7 _ 0 _ _ _ hb7).trans rfl; have y1 : w7.cell? ⟨w5.heap.size, 1, none⟩ = some (.string (str y.target)) := (cell_of_row w7 _ 1 _ _ _ hb7).trans rfl; have y2 : w7.cell? ⟨w5.heap.size, 2, none⟩ = some (.string (str y.token)) := (cell_of_row w7 _ 2 _ _ _ hb7).trans rfl; have y3 : w7.cell? ⟨w5.heap.size, 3, none⟩ = some (.slice A5 y.body.length c5) := (cell_of_row w7 _ 3 _ _ _ hb7).trans rfl; clear hb7 hb6 hk6 hk7)
                      | (go_at_call 41; refine Rets.use (equal_c (.slice A5 y.body.length c5) (.slice A x.body.length c) y.body x.body HYo.out.body HX.out.body (HO5.out.kept HK7.out (fun _ _ h => h)).rd ((HR.out.lt.mono (ok' := fun k => k < w1.heap.size) (fun k h => h.2)).kept HKx.out (fun k h h' => by have := HK2.out.size; omega))) ?_; rw [HD.out]; rintro _ _ ⟨rfl, rfl⟩))
                    go_ret2
                    rw [HQ.out]
                    exact ⟨HK07.out, .slice none 0 0, rfl, Rd.nil _ _⟩
                · rw [decide_eq_false q3] at e3
                  have HQ := Lib.hid (show Wire.printF x = ([], 4) from HQ0.out.trans (if_neg (fun h => q3 (by rw [(Prod.mk.inj h).1]))))
                  clear HQ0 he hn q1 q2 q3
                  go_enter Try.func25, Try.ntmps25
                  go_wp2_with (first
                    | (go_at_call 40; rw [← HW.out]; refine Rets.use (dec_c (x.body.length : Int) (by omega) (by omega) w1) ?_; rw [← HSd.out]; rintro v2 w2 ⟨rfl, hk2⟩; have HK2 := Lib.hid hk2; have c3 := hk2.cell HC3.out (fun h => h))
                    | ((with_reducible refine at_ 57 rfl ?_); go_must (refine step_str_mrow2 rfl _ _ _ rfl Try.underlying9 Try.underlying22 Try.underlying5 (Wire.front x) (front_b HX.out) (by rw [← HSf.out]; rfl) ?_); intro cc w3 hm3 hk3; have HM3 := Lib.hid hm3; have HK3 := Lib.hid hk3; have HK13 := Lib.hid (HK2.out.trans hk3 (fun _ _ h => h)); have c3 := HK13.out.cell HC3.out (fun h => h); clear hm3)
                    | ((with_reducible refine at_ 60 rfl ?_); go_must (refine step_append_m rfl _ _ _ rfl Try.underlying22 row_byte w2.heap.size cc (Wire.front x) x.body rfl HM3.out (.slice A x.body.length c) rfl (HR.out.kept HK13.out (fun _ _ h => h)) (by have := front_len HF.out; omega) ?_); intro v4 w4 hr4 hk4; have HR4 := Lib.hid (show Rd w4 _ v4 (Wire.text x).length (Disk.bytes8 (Wire.text x)) from hr4); obtain ⟨A4, c4, hv4, _⟩ := hr4.slice; replace hv4 : v4 = .slice A4 (Wire.text x).length c4 := hv4; subst hv4; have HK4 := Lib.hid hk4; clear hr4)
                    | (go_at_call 13; refine Rets.use (wholeW_c (.slice A4 (Wire.text x).length c4) (Wire.text x) HR4.out (by omega) (text_b HX.out)) ?_; rw [HTT.out]; rintro v5 w5 ⟨hk5, u5, rfl, hO5⟩; have HO5 := Lib.hid hO5; obtain ⟨A5, c5, rfl, _⟩ := hO5.slice; have HK5 := Lib.hid hk5; clear hO5)
                    | ((with_reducible refine at_ 6 rfl ?_); go_must (refine step_alloc rfl _ rfl _ zq row_req rfl ?_); intro w6 hb6 hk6 hs6)
                    | ((with_reducible refine at_store 26 (.tmp 6) (.tmp 64) rfl ?_); go_must (refine step_store rfl _ _ _ rfl w5.heap.size 0 (reqC y (.slice A5 y.body.length c5)) _ _ rfl rfl hb6 (by simp [zq, reqC]) (info_reqC _ _) (by simp [reqC, Value.oneCell']) ?_); intro w7 hb7 hk7 hs7; rw [put_whole (by rfl)] at hb7; have HK7 := Lib.hid (fresh_set (Keeps.refl _ w5) hk6 hk7); have HB7 := Lib.hid hb7; have HK57 := Lib.hid (HK5.out.trans HK7.out (fun _ _ h => h)); have HKx := Lib.hid (((HK13.out.mono (S' := fun k => k = w2.heap.size) (fun _ _ h => h.elim)).trans HK4.out (fun _ _ h => h)).trans HK57.out (fun _ _ h => h.elim)); have hz2 : w.heap.size < w2.heap.size := (by have := HK2.out.size; omega); have HK07 := Lib.hid (((HK1.out.mono (S' := fun k => w.heap.size ≤ k) (fun _ _ h => h.elim)).trans HKx.out (fun k _ h => by omega)).mono (S' := fun _ => False) (fun k hk h => by omega)); have d0 := HKx.out.cell HC0.out (fun h => by have h2 : w.heap.size = w2.heap.size := h; omega); have d1 := HKx.out.cell HC1.out (fun h => by have h2 : w.heap.size = w2.heap.size := h; omega); have d2 := HKx.out.cell HC2.out (fun h => by have h2 : w.heap.size = w2.heap.size := h; omega); have d3 := HKx.out.cell HC3.out (fun h => by have h2 : w.heap.size = w2.heap.size := h; omega); have y0 : w7.cell? ⟨w5.heap.size, 0, none⟩ = some (.string (str y.method)) := (cell_of_row w7 _ 0 _ _ _ hb7).trans rfl; have y1 : w7.cell? ⟨w5.heap.size, 1, none⟩ = some (.string (str y.target)) := (cell_of_row w7 _ 1 _ _ _ hb7).trans rfl; have y2 : w7.cell? ⟨w5.heap.size, 2, none⟩ = some (.string (str y.token)) := (cell_of_row w7 _ 2 _ _ _ hb7).trans rfl; have y3 : w7.cell? ⟨w5.heap.size, 3, none⟩ = some (.slice A5 y.body.length c5) := (cell_of_row w7 _ 3 _ _ _ hb7).trans rfl; clear hb7 hb6 hk6 hk7)
                    | (go_at_call 41; refine Rets.use (equal_c (.slice A5 y.body.length c5) (.slice A x.body.length c) y.body x.body HYo.out.body HX.out.body (HO5.out.kept HK7.out (fun _ _ h => h)).rd ((HR.out.lt.mono (ok' := fun k => k < w1.heap.size) (fun k h => h.2)).kept HKx.out (fun k h h' => by have := HK2.out.size; omega))) ?_; rw [HD.out]; rintro _ _ ⟨rfl, rfl⟩))
                  go_ret2
                  rw [HQ.out]
                  exact ⟨HK07.out, .slice none 0 0, rfl, Rd.nil _ _⟩
              · rw [decide_eq_false q2] at e2
                have HQ := Lib.hid (show Wire.printF x = ([], 4) from HQ0.out.trans (if_neg (fun h => q2 (by rw [(Prod.mk.inj h).1]))))
                clear HQ0 he hn q1 q2 e3
                go_enter Try.func25, Try.ntmps25
                go_wp2_with (first
                  | (go_at_call 40; rw [← HW.out]; refine Rets.use (dec_c (x.body.length : Int) (by omega) (by omega) w1) ?_; rw [← HSd.out]; rintro v2 w2 ⟨rfl, hk2⟩; have HK2 := Lib.hid hk2; have c3 := hk2.cell HC3.out (fun h => h))
                  | ((with_reducible refine at_ 57 rfl ?_); go_must (refine step_str_mrow2 rfl _ _ _ rfl Try.underlying9 Try.underlying22 Try.underlying5 (Wire.front x) (front_b HX.out) (by rw [← HSf.out]; rfl) ?_); intro cc w3 hm3 hk3; have HM3 := Lib.hid hm3; have HK3 := Lib.hid hk3; have HK13 := Lib.hid (HK2.out.trans hk3 (fun _ _ h => h)); have c3 := HK13.out.cell HC3.out (fun h => h); clear hm3)
                  | ((with_reducible refine at_ 60 rfl ?_); go_must (refine step_append_m rfl _ _ _ rfl Try.underlying22 row_byte w2.heap.size cc (Wire.front x) x.body rfl HM3.out (.slice A x.body.length c) rfl (HR.out.kept HK13.out (fun _ _ h => h)) (by have := front_len HF.out; omega) ?_); intro v4 w4 hr4 hk4; have HR4 := Lib.hid (show Rd w4 _ v4 (Wire.text x).length (Disk.bytes8 (Wire.text x)) from hr4); obtain ⟨A4, c4, hv4, _⟩ := hr4.slice; replace hv4 : v4 = .slice A4 (Wire.text x).length c4 := hv4; subst hv4; have HK4 := Lib.hid hk4; clear hr4)
                  | (go_at_call 13; refine Rets.use (wholeW_c (.slice A4 (Wire.text x).length c4) (Wire.text x) HR4.out (by omega) (text_b HX.out)) ?_; rw [HTT.out]; rintro v5 w5 ⟨hk5, u5, rfl, hO5⟩; have HO5 := Lib.hid hO5; obtain ⟨A5, c5, rfl, _⟩ := hO5.slice; have HK5 := Lib.hid hk5; clear hO5)
                  | ((with_reducible refine at_ 6 rfl ?_); go_must (refine step_alloc rfl _ rfl _ zq row_req rfl ?_); intro w6 hb6 hk6 hs6)
                  | ((with_reducible refine at_store 26 (.tmp 6) (.tmp 64) rfl ?_); go_must (refine step_store rfl _ _ _ rfl w5.heap.size 0 (reqC y (.slice A5 y.body.length c5)) _ _ rfl rfl hb6 (by simp [zq, reqC]) (info_reqC _ _) (by simp [reqC, Value.oneCell']) ?_); intro w7 hb7 hk7 hs7; rw [put_whole (by rfl)] at hb7; have HK7 := Lib.hid (fresh_set (Keeps.refl _ w5) hk6 hk7); have HB7 := Lib.hid hb7; have HK57 := Lib.hid (HK5.out.trans HK7.out (fun _ _ h => h)); have HKx := Lib.hid (((HK13.out.mono (S' := fun k => k = w2.heap.size) (fun _ _ h => h.elim)).trans HK4.out (fun _ _ h => h)).trans HK57.out (fun _ _ h => h.elim)); have hz2 : w.heap.size < w2.heap.size := (by have := HK2.out.size; omega); have HK07 := Lib.hid (((HK1.out.mono (S' := fun k => w.heap.size ≤ k) (fun _ _ h => h.elim)).trans HKx.out (fun k _ h => by omega)).mono (S' := fun _ => False) (fun k hk h => by omega)); have d0 := HKx.out.cell HC0.out (fun h => by have h2 : w.heap.size = w2.heap.size := h; omega); have d1 := HKx.out.cell HC1.out (fun h => by have h2 : w.heap.size = w2.heap.size := h; omega); have d2 := HKx.out.cell HC2.out (fun h => by have h2 : w.heap.size = w2.heap.size := h; omega); have d3 := HKx.out.cell HC3.out (fun h => by have h2 : w.heap.size = w2.heap.size := h; omega); have y0 : w7.cell? ⟨w5.heap.size, 0, none⟩ = some (.string (str y.method)) := (cell_of_row w7 _ 0 _ _ _ hb7).trans rfl; have y1 : w7.cell? ⟨w5.heap.size, 1, none⟩ = some (.string (str y.target)) := (cell_of_row w7 _ 1 _ _ _ hb7).trans rfl; have y2 : w7.cell? ⟨w5.heap.size, 2, none⟩ = some (.string (str y.token)) := (cell_of_row w7 _ 2 _ _ _ hb7).trans rfl; have y3 : w7.cell? ⟨w5.heap.size, 3, none⟩ = some (.slice A5 y.body.length c5) := (cell_of_row w7 _ 3 _ _ _ hb7).trans rfl; clear hb7 hb6 hk6 hk7)
                  | (go_at_call 41; refine Rets.use (equal_c (.slice A5 y.body.length c5) (.slice A x.body.length c) y.body x.body HYo.out.body HX.out.body (HO5.out.kept HK7.out (fun _ _ h => h)).rd ((HR.out.lt.mono (ok' := fun k => k < w1.heap.size) (fun k h => h.2)).kept HKx.out (fun k h h' => by have := HK2.out.size; omega))) ?_; rw [HD.out]; rintro _ _ ⟨rfl, rfl⟩))
                go_ret2
                rw [HQ.out]
                exact ⟨HK07.out, .slice none 0 0, rfl, Rd.nil _ _⟩
            · rw [decide_eq_false q1] at e1
              have HQ := Lib.hid (show Wire.printF x = ([], 4) from HQ0.out.trans (if_neg (fun h => q1 (by rw [(Prod.mk.inj h).1]))))
              clear HQ0 he hn q1 e2 e3
              go_enter Try.func25, Try.ntmps25
              go_wp2_with (first
                | (go_at_call 40; rw [← HW.out]; refine Rets.use (dec_c (x.body.length : Int) (by omega) (by omega) w1) ?_; rw [← HSd.out]; rintro v2 w2 ⟨rfl, hk2⟩; have HK2 := Lib.hid hk2; have c3 := hk2.cell HC3.out (fun h => h))
                | ((with_reducible refine at_ 57 rfl ?_); go_must (refine step_str_mrow2 rfl _ _ _ rfl Try.underlying9 Try.underlying22 Try.underlying5 (Wire.front x) (front_b HX.out) (by rw [← HSf.out]; rfl) ?_); intro cc w3 hm3 hk3; have HM3 := Lib.hid hm3; have HK3 := Lib.hid hk3; have HK13 := Lib.hid (HK2.out.trans hk3 (fun _ _ h => h)); have c3 := HK13.out.cell HC3.out (fun h => h); clear hm3)
                | ((with_reducible refine at_ 60 rfl ?_); go_must (refine step_append_m rfl _ _ _ rfl Try.underlying22 row_byte w2.heap.size cc (Wire.front x) x.body rfl HM3.out (.slice A x.body.length c) rfl (HR.out.kept HK13.out (fun _ _ h => h)) (by have := front_len HF.out; omega) ?_); intro v4 w4 hr4 hk4; have HR4 := Lib.hid (show Rd w4 _ v4 (Wire.text x).length (Disk.bytes8 (Wire.text x)) from hr4); obtain ⟨A4, c4, hv4, _⟩ := hr4.slice; replace hv4 : v4 = .slice A4 (Wire.text x).length c4 := hv4; subst hv4; have HK4 := Lib.hid hk4; clear hr4)
                | (go_at_call 13; refine Rets.use (wholeW_c (.slice A4 (Wire.text x).length c4) (Wire.text x) HR4.out (by omega) (text_b HX.out)) ?_; rw [HTT.out]; rintro v5 w5 ⟨hk5, u5, rfl, hO5⟩; have HO5 := Lib.hid hO5; obtain ⟨A5, c5, rfl, _⟩ := hO5.slice; have HK5 := Lib.hid hk5; clear hO5)
                | ((with_reducible refine at_ 6 rfl ?_); go_must (refine step_alloc rfl _ rfl _ zq row_req rfl ?_); intro w6 hb6 hk6 hs6)
                | ((with_reducible refine at_store 26 (.tmp 6) (.tmp 64) rfl ?_); go_must (refine step_store rfl _ _ _ rfl w5.heap.size 0 (reqC y (.slice A5 y.body.length c5)) _ _ rfl rfl hb6 (by simp [zq, reqC]) (info_reqC _ _) (by simp [reqC, Value.oneCell']) ?_); intro w7 hb7 hk7 hs7; rw [put_whole (by rfl)] at hb7; have HK7 := Lib.hid (fresh_set (Keeps.refl _ w5) hk6 hk7); have HB7 := Lib.hid hb7; have HK57 := Lib.hid (HK5.out.trans HK7.out (fun _ _ h => h)); have HKx := Lib.hid (((HK13.out.mono (S' := fun k => k = w2.heap.size) (fun _ _ h => h.elim)).trans HK4.out (fun _ _ h => h)).trans HK57.out (fun _ _ h => h.elim)); have hz2 : w.heap.size < w2.heap.size := (by have := HK2.out.size; omega); have HK07 := Lib.hid (((HK1.out.mono (S' := fun k => w.heap.size ≤ k) (fun _ _ h => h.elim)).trans HKx.out (fun k _ h => by omega)).mono (S' := fun _ => False) (fun k hk h => by omega)); have d0 := HKx.out.cell HC0.out (fun h => by have h2 : w.heap.size = w2.heap.size := h; omega); have d1 := HKx.out.cell HC1.out (fun h => by have h2 : w.heap.size = w2.heap.size := h; omega); have d2 := HKx.out.cell HC2.out (fun h => by have h2 : w.heap.size = w2.heap.size := h; omega); have d3 := HKx.out.cell HC3.out (fun h => by have h2 : w.heap.size = w2.heap.size := h; omega); have y0 : w7.cell? ⟨w5.heap.size, 0, none⟩ = some (.string (str y.method)) := (cell_of_row w7 _ 0 _ _ _ hb7).trans rfl; have y1 : w7.cell? ⟨w5.heap.size, 1, none⟩ = some (.string (str y.target)) := (cell_of_row w7 _ 1 _ _ _ hb7).trans rfl; have y2 : w7.cell? ⟨w5.heap.size, 2, none⟩ = some (.string (str y.token)) := (cell_of_row w7 _ 2 _ _ _ hb7).trans rfl; have y3 : w7.cell? ⟨w5.heap.size, 3, none⟩ = some (.slice A5 y.body.length c5) := (cell_of_row w7 _ 3 _ _ _ hb7).trans rfl; clear hb7 hb6 hk6 hk7)
                | (go_at_call 41; refine Rets.use (equal_c (.slice A5 y.body.length c5) (.slice A x.body.length c) y.body x.body HYo.out.body HX.out.body (HO5.out.kept HK7.out (fun _ _ h => h)).rd ((HR.out.lt.mono (ok' := fun k => k < w1.heap.size) (fun k h => h.2)).kept HKx.out (fun k h h' => by have := HK2.out.size; omega))) ?_; rw [HD.out]; rintro _ _ ⟨rfl, rfl⟩))
              go_ret2
              rw [HQ.out]
              exact ⟨HK07.out, .slice none 0 0, rfl, Rd.nil _ _⟩
          · have hnb : (n != ((Wire.text x).length : Int)) = true := by simpa using hn
            have HQ := Lib.hid (show Wire.printF x = ([], 4) from HQ0.out.trans (if_neg (fun h => hn (Prod.mk.inj (Prod.mk.inj h).2).1)))
            clear HQ0 he hn
            go_enter Try.func25, Try.ntmps25
            go_wp2_with (first
              | (go_at_call 40; rw [← HW.out]; refine Rets.use (dec_c (x.body.length : Int) (by omega) (by omega) w1) ?_; rw [← HSd.out]; rintro v2 w2 ⟨rfl, hk2⟩; have HK2 := Lib.hid hk2; have c3 := hk2.cell HC3.out (fun h => h))
              | ((with_reducible refine at_ 57 rfl ?_); go_must (refine step_str_mrow2 rfl _ _ _ rfl Try.underlying9 Try.underlying22 Try.underlying5 (Wire.front x) (front_b HX.out) (by rw [← HSf.out]; rfl) ?_); intro cc w3 hm3 hk3; have HM3 := Lib.hid hm3; have HK3 := Lib.hid hk3; have HK13 := Lib.hid (HK2.out.trans hk3 (fun _ _ h => h)); have c3 := HK13.out.cell HC3.out (fun h => h); clear hm3)
              | ((with_reducible refine at_ 60 rfl ?_); go_must (refine step_append_m rfl _ _ _ rfl Try.underlying22 row_byte w2.heap.size cc (Wire.front x) x.body rfl HM3.out (.slice A x.body.length c) rfl (HR.out.kept HK13.out (fun _ _ h => h)) (by have := front_len HF.out; omega) ?_); intro v4 w4 hr4 hk4; have HR4 := Lib.hid (show Rd w4 _ v4 (Wire.text x).length (Disk.bytes8 (Wire.text x)) from hr4); obtain ⟨A4, c4, hv4, _⟩ := hr4.slice; replace hv4 : v4 = .slice A4 (Wire.text x).length c4 := hv4; subst hv4; have HK4 := Lib.hid hk4; clear hr4)
              | (go_at_call 13; refine Rets.use (wholeW_c (.slice A4 (Wire.text x).length c4) (Wire.text x) HR4.out (by omega) (text_b HX.out)) ?_; rw [HTT.out]; rintro v5 w5 ⟨hk5, u5, rfl, hO5⟩; have HO5 := Lib.hid hO5; obtain ⟨A5, c5, rfl, _⟩ := hO5.slice; have HK5 := Lib.hid hk5; clear hO5)
              | ((with_reducible refine at_ 6 rfl ?_); go_must (refine step_alloc rfl _ rfl _ zq row_req rfl ?_); intro w6 hb6 hk6 hs6)
              | ((with_reducible refine at_store 26 (.tmp 6) (.tmp 64) rfl ?_); go_must (refine step_store rfl _ _ _ rfl w5.heap.size 0 (reqC y (.slice A5 y.body.length c5)) _ _ rfl rfl hb6 (by simp [zq, reqC]) (info_reqC _ _) (by simp [reqC, Value.oneCell']) ?_); intro w7 hb7 hk7 hs7; rw [put_whole (by rfl)] at hb7; have HK7 := Lib.hid (fresh_set (Keeps.refl _ w5) hk6 hk7); have HB7 := Lib.hid hb7; have HK57 := Lib.hid (HK5.out.trans HK7.out (fun _ _ h => h)); have HKx := Lib.hid (((HK13.out.mono (S' := fun k => k = w2.heap.size) (fun _ _ h => h.elim)).trans HK4.out (fun _ _ h => h)).trans HK57.out (fun _ _ h => h.elim)); have hz2 : w.heap.size < w2.heap.size := (by have := HK2.out.size; omega); have HK07 := Lib.hid (((HK1.out.mono (S' := fun k => w.heap.size ≤ k) (fun _ _ h => h.elim)).trans HKx.out (fun k _ h => by omega)).mono (S' := fun _ => False) (fun k hk h => by omega)); have d0 := HKx.out.cell HC0.out (fun h => by have h2 : w.heap.size = w2.heap.size := h; omega); have d1 := HKx.out.cell HC1.out (fun h => by have h2 : w.heap.size = w2.heap.size := h; omega); have d2 := HKx.out.cell HC2.out (fun h => by have h2 : w.heap.size = w2.heap.size := h; omega); have d3 := HKx.out.cell HC3.out (fun h => by have h2 : w.heap.size = w2.heap.size := h; omega); have y0 : w7.cell? ⟨w5.heap.size, 0, none⟩ = some (.string (str y.method)) := (cell_of_row w7 _ 0 _ _ _ hb7).trans rfl; have y1 : w7.cell? ⟨w5.heap.size, 1, none⟩ = some (.string (str y.target)) := (cell_of_row w7 _ 1 _ _ _ hb7).trans rfl; have y2 : w7.cell? ⟨w5.heap.size, 2, none⟩ = some (.string (str y.token)) := (cell_of_row w7 _ 2 _ _ _ hb7).trans rfl; have y3 : w7.cell? ⟨w5.heap.size, 3, none⟩ = some (.slice A5 y.body.length c5) := (cell_of_row w7 _ 3 _ _ _ hb7).trans rfl; clear hb7 hb6 hk6 hk7)
              | (go_at_call 41; refine Rets.use (equal_c (.slice A5 y.body.length c5) (.slice A x.body.length c) y.body x.body HYo.out.body HX.out.body (HO5.out.kept HK7.out (fun _ _ h => h)).rd ((HR.out.lt.mono (ok' := fun k => k < w1.heap.size) (fun k h => h.2)).kept HKx.out (fun k h h' => by have := HK2.out.size; omega))) ?_; rw [HD.out]; rintro _ _ ⟨rfl, rfl⟩))
            go_ret2
            rw [HQ.out]
            exact ⟨HK07.out, .slice none 0 0, rfl, Rd.nil _ _⟩
        · have heb : (e != 0) = true := by simpa using he
          have HQ := Lib.hid (show Wire.printF x = ([], 4) from HQ0.out.trans (if_neg (fun h => he (Prod.mk.inj (Prod.mk.inj h).2).2)))
          clear HQ0 he
          go_enter Try.func25, Try.ntmps25
          go_wp2_with (first
            | (go_at_call 40; rw [← HW.out]; refine Rets.use (dec_c (x.body.length : Int) (by omega) (by omega) w1) ?_; rw [← HSd.out]; rintro v2 w2 ⟨rfl, hk2⟩; have HK2 := Lib.hid hk2; have c3 := hk2.cell HC3.out (fun h => h))
            | ((with_reducible refine at_ 57 rfl ?_); go_must (refine step_str_mrow2 rfl _ _ _ rfl Try.underlying9 Try.underlying22 Try.underlying5 (Wire.front x) (front_b HX.out) (by rw [← HSf.out]; rfl) ?_); intro cc w3 hm3 hk3; have HM3 := Lib.hid hm3; have HK3 := Lib.hid hk3; have HK13 := Lib.hid (HK2.out.trans hk3 (fun _ _ h => h)); have c3 := HK13.out.cell HC3.out (fun h => h); clear hm3)
            | ((with_reducible refine at_ 60 rfl ?_); go_must (refine step_append_m rfl _ _ _ rfl Try.underlying22 row_byte w2.heap.size cc (Wire.front x) x.body rfl HM3.out (.slice A x.body.length c) rfl (HR.out.kept HK13.out (fun _ _ h => h)) (by have := front_len HF.out; omega) ?_); intro v4 w4 hr4 hk4; have HR4 := Lib.hid (show Rd w4 _ v4 (Wire.text x).length (Disk.bytes8 (Wire.text x)) from hr4); obtain ⟨A4, c4, hv4, _⟩ := hr4.slice; replace hv4 : v4 = .slice A4 (Wire.text x).length c4 := hv4; subst hv4; have HK4 := Lib.hid hk4; clear hr4)
            | (go_at_call 13; refine Rets.use (wholeW_c (.slice A4 (Wire.text x).length c4) (Wire.text x) HR4.out (by omega) (text_b HX.out)) ?_; rw [HTT.out]; rintro v5 w5 ⟨hk5, u5, rfl, hO5⟩; have HO5 := Lib.hid hO5; obtain ⟨A5, c5, rfl, _⟩ := hO5.slice; have HK5 := Lib.hid hk5; clear hO5)
            | ((with_reducible refine at_ 6 rfl ?_); go_must (refine step_alloc rfl _ rfl _ zq row_req rfl ?_); intro w6 hb6 hk6 hs6)
            | ((with_reducible refine at_store 26 (.tmp 6) (.tmp 64) rfl ?_); go_must (refine step_store rfl _ _ _ rfl w5.heap.size 0 (reqC y (.slice A5 y.body.length c5)) _ _ rfl rfl hb6 (by simp [zq, reqC]) (info_reqC _ _) (by simp [reqC, Value.oneCell']) ?_); intro w7 hb7 hk7 hs7; rw [put_whole (by rfl)] at hb7; have HK7 := Lib.hid (fresh_set (Keeps.refl _ w5) hk6 hk7); have HB7 := Lib.hid hb7; have HK57 := Lib.hid (HK5.out.trans HK7.out (fun _ _ h => h)); have HKx := Lib.hid (((HK13.out.mono (S' := fun k => k = w2.heap.size) (fun _ _ h => h.elim)).trans HK4.out (fun _ _ h => h)).trans HK57.out (fun _ _ h => h.elim)); have hz2 : w.heap.size < w2.heap.size := (by have := HK2.out.size; omega); have HK07 := Lib.hid (((HK1.out.mono (S' := fun k => w.heap.size ≤ k) (fun _ _ h => h.elim)).trans HKx.out (fun k _ h => by omega)).mono (S' := fun _ => False) (fun k hk h => by omega)); have d0 := HKx.out.cell HC0.out (fun h => by have h2 : w.heap.size = w2.heap.size := h; omega); have d1 := HKx.out.cell HC1.out (fun h => by have h2 : w.heap.size = w2.heap.size := h; omega); have d2 := HKx.out.cell HC2.out (fun h => by have h2 : w.heap.size = w2.heap.size := h; omega); have d3 := HKx.out.cell HC3.out (fun h => by have h2 : w.heap.size = w2.heap.size := h; omega); have y0 : w7.cell? ⟨w5.heap.size, 0, none⟩ = some (.string (str y.method)) := (cell_of_row w7 _ 0 _ _ _ hb7).trans rfl; have y1 : w7.cell? ⟨w5.heap.size, 1, none⟩ = some (.string (str y.target)) := (cell_of_row w7 _ 1 _ _ _ hb7).trans rfl; have y2 : w7.cell? ⟨w5.heap.size, 2, none⟩ = some (.string (str y.token)) := (cell_of_row w7 _ 2 _ _ _ hb7).trans rfl; have y3 : w7.cell? ⟨w5.heap.size, 3, none⟩ = some (.slice A5 y.body.length c5) := (cell_of_row w7 _ 3 _ _ _ hb7).trans rfl; clear hb7 hb6 hk6 hk7)
            | (go_at_call 41; refine Rets.use (equal_c (.slice A5 y.body.length c5) (.slice A x.body.length c) y.body x.body HYo.out.body HX.out.body (HO5.out.kept HK7.out (fun _ _ h => h)).rd ((HR.out.lt.mono (ok' := fun k => k < w1.heap.size) (fun k h => h.2)).kept HKx.out (fun k h h' => by have := HK2.out.size; omega))) ?_; rw [HD.out]; rintro _ _ ⟨rfl, rfl⟩))
          go_ret2
          rw [HQ.out]
          exact ⟨HK07.out, .slice none 0 0, rfl, Rd.nil _ _⟩
end Go.Proofs.Ytibegbmehpggbaa
