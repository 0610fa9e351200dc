/-
  WireNext: two requests, one behind the other.
-/
import Derived.Test.YtibegbmehpggbaaLWireBack
import Derived.Test.YtibegbmehpggbaaWireY
namespace Go.Proofs.Ytibegbmehpggbaa
open Go.RowKit Go.Canon Go.Mem Go.Args
set_option linter.unusedVariables false
set_option linter.unusedSimpArgs false
/-- One byte of a request that ends just at the end. -/
theorem put_at {s : Wire.S} {b : Int} {l : List Int} {i : Int} {x : ReqP} (h : Wire.go s (b :: l) i = (x, i + ((b :: l).length : Int), 0)) : (Wire.put s b).1.2 = 0 ∧ (Wire.put s b).1.1 = decide (l = []) ∧ (l = [] → (Wire.put s b).2.x = x) ∧ (l ≠ [] → Wire.go (Wire.put s b).2 l (i + 1) = (x, (i + 1) + (l.length : Int), 0)) := by
  rw [go_cons] at h
  by_cases he : (Wire.put s b).1.2 = 0
  · rw [if_neg (by simpa using he)] at h
    refine ⟨he, ?_⟩
    by_cases hd : (Wire.put s b).1.1 = true
    · rw [if_pos hd] at h
      have h2 := (Prod.mk.inj (Prod.mk.inj h).2).1
      have hl : l = [] := List.eq_nil_of_length_eq_zero (by rw [List.length_cons] at h2; omega)
      exact ⟨by rw [hd, hl]; rfl, fun _ => (Prod.mk.inj h).1, fun h => (h hl).elim⟩
    · rw [if_neg hd] at h
      have hl : l ≠ [] := by
        intro e
        subst e
        simp [Wire.go] at h
      refine ⟨by rw [decide_eq_false hl]; simpa using hd, fun h => (hl h).elim, fun _ => ?_⟩
      rw [h, List.length_cons]
      congr 2
      omega
  · rw [if_pos he] at h
    exact (he (Prod.mk.inj (Prod.mk.inj h).2).2).elim
/-- Whose body comes has a head. -/
theorem put_head {s : Wire.S} {b : Int} (h1 : s.bad = false) (h2 : s.whole = false) (h : s.inB = true → 1 ≤ s.head) : ((Wire.put s b).2.inB = true → 1 ≤ (Wire.put s b).2.head) ∧ ((Wire.put s b).1.2 = 0 → 1 ≤ (Wire.put s b).2.head) := by
  rw [Wire.put_on h1 h2]
  have key : ((Wire.step s b).2.inB = true → 1 ≤ (Wire.step s b).2.head) ∧ ((Wire.step s b).1 = 0 → 1 ≤ (Wire.step s b).2.head) := by
    unfold Wire.step
    cases hi : s.inB with
    | true =>
      rw [if_pos rfl]
      have := h hi
      unfold Wire.body
      split
      · exact ⟨fun _ => this, fun _ => this⟩
      · split <;> exact ⟨fun _ => this, fun _ => this⟩
    | false =>
      rw [if_neg (by simp)]
      unfold Wire.heads
      split
      · exact ⟨fun h => absurd (h.symm.trans hi) (by simp), fun h => absurd (show (5 : Int) = 0 from h) (by decide)⟩
      · split
        · exact ⟨fun _ => Nat.le_add_left _ _, fun _ => Nat.le_add_left _ _⟩
        · split
          · exact ⟨fun _ => Nat.le_add_left _ _, fun _ => Nat.le_add_left _ _⟩
          · have hl : ∀ (r : Wire.S) (l : List Int), 1 ≤ r.head → 1 ≤ (Wire.lineEnd r l).2.head := by
              intro r l hr
              unfold Wire.lineEnd
              split
              · unfold Wire.first; split
                · split <;> exact hr
                · exact hr
              · split
                · unfold Wire.ends; split <;> exact hr
                · split
                  · exact hr
                  · unfold Wire.further
                    split
                    · exact hr
                    · repeat' split
                      all_goals exact hr
            have := hl { s with head := s.head + 1, line := [], lines := s.lines + 1 } s.line.dropLast (Nat.le_add_left _ _)
            exact ⟨fun _ => this, fun _ => this⟩
  exact key
/-- Where the reader lies, and what is made behind it. -/
abbrev Zone (B0 B1 B2 : Nat) : Nat → Prop := fun k => (B0 ≤ k ∧ k < B1) ∨ B2 ≤ k
/-- The reader, in the midst of a request that ends just at the end. -/
structure Mid (w : World) (S : Nat → Prop) (g : Nat) (s : Wire.S) (n : Nat) (l : List Int) (j : Nat) (x : ReqP) : Prop where
  is : WIs w S g s
  good : WGood s n
  bad : s.bad = false
  whole : s.whole = false
  head : s.inB = true → 1 ≤ s.head
  go : Wire.go s (l.drop j) (j : Int) = (x, (j : Int) + ((l.drop j).length : Int), 0)
theorem Mid.next {w : World} {S : Nat → Prop} {g : Nat} {s : Wire.S} {n : Nat} {l : List Int} {j : Nat} {x : ReqP} (h : Mid w S g s n l j x) (hj : j < l.length) (hB : IsB l) : ∃ d s', Wire.put s l[j] = ((d, 0), s') ∧ d = decide (j + 1 = l.length) ∧ WGood s' (n + 1) ∧ 1 ≤ s'.head ∧ (j + 1 = l.length → s'.x = x ∧ s'.whole = true) ∧
    (j + 1 ≠ l.length → s'.bad = false ∧ s'.whole = false ∧ Wire.go s' (l.drop (j + 1)) ((j + 1 : Nat) : Int) = (x, ((j + 1 : Nat) : Int) + ((l.drop (j + 1)).length : Int), 0)) := by
  have hgo := h.go
  rw [drop_one hj] at hgo
  obtain ⟨p1, p2, p3, p4⟩ := put_at hgo
  have hg := h.good.put (b := l[j]) (hB _ (List.getElem_mem hj))
  have hh := put_head (b := l[j]) h.bad h.whole h.head
  have hdn := put_done s l[j]
  have hgn := put_going (b := l[j]) h.bad h.whole
  have hl : (l.drop (j + 1) = []) = (j + 1 = l.length) := by
    apply propext
    constructor
    · intro e
      have := congrArg List.length e
      rw [List.length_drop, List.length_nil] at this; omega
    · intro e
      exact List.drop_of_length_le (by omega)
  simp only [hl] at p2
  refine ⟨(Wire.put s l[j]).1.1, (Wire.put s l[j]).2, ?_, p2, hg, hh.2 p1, fun e => ⟨p3 (hl.mpr e), hdn (by rw [p2]; exact decide_eq_true e)⟩, fun e => ?_⟩
  · rw [← p1]
  · obtain ⟨q1, q2⟩ := hgn p1 (by rw [p2]; exact decide_eq_false e)
    refine ⟨q1, q2, ?_⟩
    have := p4 (fun h => e (hl.mp h))
    rw [show ((j + 1 : Nat) : Int) = (j : Int) + 1 by omega]
    exact this
theorem idleW_is {w : World} {g : Nat} {b : Bool} (h : ∃ S s, WIs w S g s ∧ decide (s.head = 0) = b) : Calls Try.prog 21 #[.pointer (some ⟨g, 0, none⟩)] w (Rets (Only (.bool b) w)) := by
  obtain ⟨S, s, h, e⟩ := h
  have := idleW_c h
  rwa [e] at this
theorem WIs.zone {w : World} {S : Nat → Prop} {g : Nat} {s : Wire.S} (h : WIs w S g s) : S g := by
  obtain ⟨vl, vb, vc, R1, R2, R3, h⟩ := h.parts
  exact h.own
theorem WIs.lt {w : World} {S : Nat → Prop} {g : Nat} {s : Wire.S} (h : WIs w S g s) : g < w.heap.size := by
  obtain ⟨vl, vb, vc, R1, R2, R3, h⟩ := h.parts
  exact lt_of h.blk
theorem WIs.small {w : World} {S : Nat → Prop} {g : Nat} {s : Wire.S} (h : WIs w S g s) : WIs w (fun k => S k ∧ k < w.heap.size) g s := by
  obtain ⟨vl, vb, vc, R1, R2, R3, h⟩ := h.parts2
  exact h.wis
theorem printW_of {w : World} {ok : Nat → Prop} (x : ReqP) (hx : x.Ok) (hf : x.Few) (v : Value) {va : Value} (ha : va = reqV x v) (hr : Rd w ok v x.body.length (Disk.bytes8 x.body)) : Calls Try.prog 25 #[va] w (Rets (PrintIs w (Wire.printF x))) := by
  subst ha
  exact printW_c x hx hf v hr
set_option maxHeartbeats 1600000 in
set_option maxRecDepth 100000 in
theorem next_in (W : World) (r1 r2 : ReqP) (hr1 : r1.Ok) (hr2 : r2.Ok) (v1 v2 : Value) (h1 : Rd W (fun k => k < W.heap.size) v1 r1.body.length (Disk.bytes8 r1.body)) (h2 : Rd W (fun k => k < W.heap.size) v2 r2.body.length (Disk.bytes8 r2.body)) : Calls Try.prog 9 #[reqV r1 v1, reqV r2 v2] W (Rets (Yes W)) := by
  obtain ⟨Aa, ca, rfl, _⟩ := h1.slice
  obtain ⟨Ab, cb, rfl, _⟩ := h2.slice
  have HC1 := Lib.hid (fun w (hk : Keeps (fun _ => False) W w) => cut13_c (w := w) r1 (.slice Aa r1.body.length ca) (h1.kept hk (fun _ _ h => h)))
  have HC2 := Lib.hid (fun w (hk : Keeps (fun _ => False) W w) => cut13_c (w := w) r2 (.slice Ab r2.body.length cb) (h2.kept hk (fun _ _ h => h)))
  have HX := Lib.hid hr1.cut
  have HY := Lib.hid hr2.cut
  have HXf := Lib.hid r1.cut_few
  have HYf := Lib.hid r2.cut_few
  have l1 := r1.cut_few.b
  have l2 := r2.cut_few.b
  unfold reqV
  clear h1 h2 hr1 hr2
  generalize r1.cut = x at *
  generalize r2.cut = y at *
  go_enter Try.func9, Try.ntmps9
  go_wp2
  refine name_ fun w1 hw1 => ?_
  obtain ⟨hb0, hb1, hk1, hs1⟩ := alloc2 hw1
  clear hw1
  refine Canon.region [1, 2] [] [] (.seg [0] (.fork 1 (.loud 2 (.seg [3, 4, 5] .stop)) 2 (.loud 1 (.seg [3, 4, 5] .stop)))) (by kernel_rfl) (by kernel_rfl) (by repeat (first | (with_reducible exact Safe.body) | (with_reducible apply Safe.then) | (with_reducible apply Safe.inBlock) | (dsimp +zetaDelta only))) ?_
  simp only [Canon.pick, Canon.wpPlan, List.getElem?_toArray, List.getElem?_cons_zero, List.getElem?_cons_succ]
  have KD : Keeps (fun _ => False) w1 w1.drew := (Keeps.refl _ w1).drew
  have H0 := Lib.hid (show w1.drew.heap[W.heap.size]? = some (.cells (reqC r1 (.slice Aa r1.body.length ca)).toArray 26 (0, 0)) from KD.heap hb0 (fun h => h))
  have H1 := Lib.hid (show w1.drew.heap[W.heap.size + 1]? = some (.cells (reqC r2 (.slice Ab r2.body.length cb)).toArray 26 (0, 0)) from KD.heap hb1 (fun h => h))
  have HK := Lib.hid (hk1.trans KD (fun _ _ h => h))
  have hz : w1.drew.heap.size = W.heap.size + 2 := by have : w1.drew.heap.size = w1.heap.size := rfl
                                                      omega
  have HZ := Lib.hid hz
  clear KD hb0 hb1 hk1 hs1 hz
  generalize w1.drew = wd at *
  go_wp2_with ((with_reducible refine at_ 19 rfl ?_); go_must (refine step_load rfl _ _ rfl W.heap.size 0 (reqC r1 (.slice Aa r1.body.length ca)) _ _ (0, 0) _ rfl H0.out rfl Try.underlying26 rfl (info_reqC _ _) ?_))
  refine ⟨?_, ?_⟩
  · go_wp2_with (go_at_call 24; go_loud (refine Rets.use (HC1.out wd HK.out) ?_); rintro _ w2 ⟨hk2, u2, rfl, hO2⟩)
    refine ⟨fun p hp => (by cases hp), ?_⟩
    go_wp2_with ((with_reducible refine at_ 21 rfl ?_); go_must (refine step_load rfl _ _ rfl (W.heap.size + 1) 0 (reqC r2 (.slice Ab r2.body.length cb)) _ _ (0, 0) _ rfl (hk2.heap H1.out (fun h => h)) rfl Try.underlying26 rfl (info_reqC _ _) ?_))
    refine ⟨fun p hp => (by cases hp), ?_⟩
    obtain ⟨A2, c2, rfl, _⟩ := hO2.slice
    go_wp2_with (first
      | ((with_reducible refine at_store 26 (.tmp 2) (.tmp 20) rfl ?_); go_must (refine step_store rfl _ _ _ rfl W.heap.size 0 (reqC x (.slice A2 x.body.length c2)) _ _ rfl rfl (hk3.heap (hk2.heap H0.out (fun h => h)) (fun h => h)) (by simp [reqC]) (info_reqC _ _) (by simp [reqC, Value.oneCell']) ?_); intro w4 hb4 hk4 hs4; rw [put_whole (by rfl)] at hb4)
      | ((with_reducible refine at_store 26 (.tmp 3) (.tmp 22) rfl ?_); go_must (refine step_store rfl _ _ _ rfl (W.heap.size + 1) 0 (reqC y (.slice A3 y.body.length c3)) _ _ rfl rfl (hk4.heap (hk3.heap (hk2.heap H1.out (fun h => h)) (fun h => h)) (fun h => by omega)) (by simp [reqC]) (info_reqC _ _) (by simp [reqC, Value.oneCell']) ?_); intro w5 hb5 hk5 hs5; rw [put_whole (by rfl)] at hb5)
      | (go_at_call 24; go_loud (refine Rets.use (HC2.out w2 (HK.out.trans hk2 (fun _ _ h => h))) ?_); rintro _ w3 ⟨hk3, u3, rfl, hO3⟩; obtain ⟨A3, c3, rfl, _⟩ := hO3.slice))
    refine ⟨by rfl, trivial, ?_⟩
    have z0 := HZ.out
    have HB0 := Lib.hid (hk5.heap hb4 (fun h => by omega))
    have HB1 := Lib.hid hb5
    have z23 := hk2.size
    have z33 := hk3.size
    have HR2 := Lib.hid (((((hO2.rd.kept hk3 (fun _ _ h => h)).kept hk4 (fun k h h' => by omega)).kept hk5 (fun k h h' => by omega)).lt.mono (ok' := fun k => k < w5.heap.size) (fun k h => h.2)))
    have HR3 := Lib.hid (((hO3.rd.kept hk4 (fun k h h' => by omega)).kept hk5 (fun k h h' => by omega)).lt.mono (ok' := fun k => k < w5.heap.size) (fun k h => h.2))
    have HK5 := Lib.hid ((((HK.out.trans hk2 (fun _ _ h => h)).trans hk3 (fun _ _ h => h)).trans hk4 (fun k hk h => by omega)).trans hk5 (fun k hk h => by omega))
    have hz5 : W.heap.size + 2 ≤ w5.heap.size := by omega
    clear hk2 hk3 hk4 hk5 hs4 hs5 hb4 hb5 hO2 hO3 H0 H1 z23 z33 z0 HC1 HC2
    rcases printF_cases x with hp | ⟨hp, hwx⟩
    · have HPx := Lib.hid hp
      have HPy := Lib.hid (rfl : Wire.printF y = Wire.printF y)
      clear hp
      clear HPy
      obtain ⟨py, ey⟩ : ∃ p, Wire.printF y = p := ⟨_, rfl⟩
      have HPy := Lib.hid ey
      clear ey
      obtain ⟨py1, py2⟩ := py
      go_wp2_with (first
        | (first | ((with_reducible refine at_ 24 rfl ?_); go_must (refine step_load rfl _ _ rfl W.heap.size 0 (reqC x (.slice A2 x.body.length c2)) _ _ (0, 0) _ rfl HB0.out rfl Try.underlying26 rfl (info_reqC _ _) ?_)) | ((with_reducible refine at_ 29 rfl ?_); go_must (refine step_load rfl _ _ rfl (W.heap.size + 1) 0 (reqC y (.slice A3 y.body.length c3)) _ _ (0, 0) _ rfl (HK6.out.heap HB1.out (fun h => h)) rfl Try.underlying26 rfl (info_reqC _ _) ?_)) | (go_at_call 25; first | (refine Rets.use (printW_of x HX.out HXf.out (.slice A2 x.body.length c2) (by rfl) HR2.out) ?_; rw [HPx.out]; rintro _ w6 ⟨hk6, u6, rfl, hr6⟩; have HR6 := Lib.hid hr6; have HK6 := Lib.hid hk6; clear hr6) | (refine Rets.use (printW_of y HY.out HYf.out (.slice A3 y.body.length c3) (by rfl) (HR3.out.kept HK6.out (fun _ _ h => h))) ?_; rw [HPy.out]; rintro _ w7 ⟨hk7, u7, rfl, hr7⟩; have HR7 := Lib.hid hr7; have HK7 := Lib.hid hk7; clear hr7)) | (go_at_call 18; refine Rets.use (newW_c _) ?_; rintro v8 w8 ⟨hk8, g, hg, rfl, hW8⟩; have HW8 := Lib.hid hW8; have HK8 := Lib.hid hk8; clear hW8))
        | (go_at_call 17; refine Rets.use (lives13_c _) ?_; rintro v14 w14 ⟨rfl, hk14⟩))
      go_ret
      exact ⟨rfl, (((HK5.out.trans HK6.out (fun _ _ h => h)).trans HK7.out (fun _ _ h => h)).trans HK8.out (fun _ _ h => h)).trans hk14 (fun _ _ h => h)⟩
    · rcases printF_cases y with hq | ⟨hq, hwy⟩
      · have HPx := Lib.hid hp
        have HPy := Lib.hid hq
        clear hp hq hwx
        go_wp2_with (first
          | (first | ((with_reducible refine at_ 24 rfl ?_); go_must (refine step_load rfl _ _ rfl W.heap.size 0 (reqC x (.slice A2 x.body.length c2)) _ _ (0, 0) _ rfl HB0.out rfl Try.underlying26 rfl (info_reqC _ _) ?_)) | ((with_reducible refine at_ 29 rfl ?_); go_must (refine step_load rfl _ _ rfl (W.heap.size + 1) 0 (reqC y (.slice A3 y.body.length c3)) _ _ (0, 0) _ rfl (HK6.out.heap HB1.out (fun h => h)) rfl Try.underlying26 rfl (info_reqC _ _) ?_)) | (go_at_call 25; first | (refine Rets.use (printW_of x HX.out HXf.out (.slice A2 x.body.length c2) (by rfl) HR2.out) ?_; rw [HPx.out]; rintro _ w6 ⟨hk6, u6, rfl, hr6⟩; have HR6 := Lib.hid hr6; have HK6 := Lib.hid hk6; clear hr6) | (refine Rets.use (printW_of y HY.out HYf.out (.slice A3 y.body.length c3) (by rfl) (HR3.out.kept HK6.out (fun _ _ h => h))) ?_; rw [HPy.out]; rintro _ w7 ⟨hk7, u7, rfl, hr7⟩; have HR7 := Lib.hid hr7; have HK7 := Lib.hid hk7; clear hr7)) | (go_at_call 18; refine Rets.use (newW_c _) ?_; rintro v8 w8 ⟨hk8, g, hg, rfl, hW8⟩; have HW8 := Lib.hid hW8; have HK8 := Lib.hid hk8; clear hW8))
          | (go_at_call 17; refine Rets.use (lives13_c _) ?_; rintro v14 w14 ⟨rfl, hk14⟩))
        go_ret
        exact ⟨rfl, (((HK5.out.trans HK6.out (fun _ _ h => h)).trans HK7.out (fun _ _ h => h)).trans HK8.out (fun _ _ h => h)).trans hk14 (fun _ _ h => h)⟩
      · have HPx := Lib.hid hp
        have HPy := Lib.hid hq
        have hpa := text_pos x
        have hpb := text_pos y
        have hla : (Wire.text x).length ≤ 4100 := by have := front_len HXf.out; unfold Wire.text; rw [List.length_append]; omega
        have hlb : (Wire.text y).length ≤ 4100 := by have := front_len HYf.out; unfold Wire.text; rw [List.length_append]; omega
        have HTa := Lib.hid (text_b HX.out)
        have HTb := Lib.hid (text_b HY.out)
        obtain ⟨TA, hTA⟩ : ∃ T, Wire.text x = T := ⟨_, rfl⟩
        obtain ⟨TB, hTB⟩ : ∃ T, Wire.text y = T := ⟨_, rfl⟩
        rw [hTA] at HPx hpa hla HTa hwx
        rw [hTB] at HPy hpb hlb HTb hwy
        have HWx := Lib.hid hwx
        have HWy := Lib.hid hwy
        clear hp hq hTA hTB hwx hwy
        go_wp2_with (first
          | (first | ((with_reducible refine at_ 24 rfl ?_); go_must (refine step_load rfl _ _ rfl W.heap.size 0 (reqC x (.slice A2 x.body.length c2)) _ _ (0, 0) _ rfl HB0.out rfl Try.underlying26 rfl (info_reqC _ _) ?_)) | ((with_reducible refine at_ 29 rfl ?_); go_must (refine step_load rfl _ _ rfl (W.heap.size + 1) 0 (reqC y (.slice A3 y.body.length c3)) _ _ (0, 0) _ rfl (HK6.out.heap HB1.out (fun h => h)) rfl Try.underlying26 rfl (info_reqC _ _) ?_)) | (go_at_call 25; first | (refine Rets.use (printW_of x HX.out HXf.out (.slice A2 x.body.length c2) (by rfl) HR2.out) ?_; rw [HPx.out]; rintro _ w6 ⟨hk6, u6, rfl, hr6⟩; have HR6 := Lib.hid hr6; have HK6 := Lib.hid hk6; clear hr6) | (refine Rets.use (printW_of y HY.out HYf.out (.slice A3 y.body.length c3) (by rfl) (HR3.out.kept HK6.out (fun _ _ h => h))) ?_; rw [HPy.out]; rintro _ w7 ⟨hk7, u7, rfl, hr7⟩; have HR7 := Lib.hid hr7; have HK7 := Lib.hid hk7; clear hr7)) | (go_at_call 18; refine Rets.use (newW_c _) ?_; rintro v8 w8 ⟨hk8, g, hg, rfl, hW8⟩; have HW8 := Lib.hid hW8; have HK8 := Lib.hid hk8; clear hW8))
          | (go_at_call 12; refine Rets.use (copy_c u6 TA (HR6.out.kept (HK7.out.trans HK8.out (fun _ _ h => h)) (fun _ _ h => h)) (by omega)) ?_; rintro v9 w9 ⟨hO9, hk9⟩; have HO9 := Lib.hid hO9; have HK9 := Lib.hid hk9; clear hO9)
          | ((with_reducible refine at_ 52 rfl ?_); go_must (refine step_append_rd (ok2 := fun k => w6.heap.size ≤ k) rfl _ _ _ rfl 5 _ 1 1 Try.underlying22 row_byte rfl (by decide) v9 TA.length (Disk.bytes8 TA) rfl HO9.out u7 TB.length (Disk.bytes8 TB) rfl ((HR7.out.kept HK8.out (fun _ _ h => h)).kept HK9.out (fun _ _ h => h)) (by rw [Disk.bytes8_len, Nat.mul_one]) (Disk.bytes8_one TB) (by simp only [maxLen]; omega) (by omega) ?_); intro v10 w10 hO10 hk10; have HO10 := Lib.hid hO10; have HOx := HO9.out; have HK10 := Lib.hid (hk10.mono (S' := fun k => w8.heap.size ≤ k) (fun k _ h => HOx.2 k h)); obtain ⟨Al, cl, rfl, _⟩ := hO10.slice; clear hO10 hk10 HOx))
        obtain ⟨A6, c6, hu6, _⟩ := HR6.out.slice
        subst hu6
        have z57 := HK7.out.size
        have z56 := HK6.out.size
        have z78 := HK8.out.size
        have z89 := HK9.out.size
        have z910 := HK10.out.size
        have HK810 := Lib.hid ((HK9.out.mono (S' := fun k => w8.heap.size ≤ k) (fun _ _ h => h.elim)).trans HK10.out (fun _ _ h => h))
        have HK58 := Lib.hid ((HK6.out.trans HK7.out (fun _ _ h => h)).trans HK8.out (fun _ _ h => h))
        have HWr := Lib.hid ((HW8.out.small.kept HK810.out (fun k h h' => by omega)).mono (S' := Zone w7.heap.size w8.heap.size w10.heap.size) (fun k h => .inl h))
        have HRl := Lib.hid (show Rd w10 (fun k => w8.heap.size ≤ k ∧ k < w10.heap.size) (.slice Al (TA.length + TB.length) cl) (TA.length + TB.length) (Disk.bytes8 (TA ++ TB)) by rw [Disk.bytes8_append]; exact HO10.out.rd.lt.mono (fun k h => ⟨by have := h.1; omega, h.2⟩))
        have HB05 := Lib.hid (HK810.out.heap (HK58.out.heap HB0.out (fun h => h)) (fun h => by omega))
        have HB15 := Lib.hid (HK810.out.heap (HK58.out.heap HB1.out (fun h => h)) (fun h => by omega))
        have HR25 := Lib.hid ((HR2.out.kept HK58.out (fun _ _ h => h)).kept HK810.out (fun k h h' => by omega))
        have HR35 := Lib.hid ((HR3.out.kept HK58.out (fun _ _ h => h)).kept HK810.out (fun k h h' => by omega))
        have HKf := Lib.hid (((HK5.out.trans HK58.out (fun _ _ h => h)).mono (S' := fun k => W.heap.size ≤ k) (fun _ _ h => h.elim)).trans HK810.out (fun k _ h => by omega))
        have HM0 := Lib.hid (show Mid w10 (Zone w7.heap.size w8.heap.size w10.heap.size) g Wire.new 0 TA 0 x from ⟨HWr.out, WGood.new, rfl, rfl, fun h => (by cases h), by rw [List.drop_zero]; have := HWx.out; simpa [Wire.whole] using this⟩)
        clear HK6 HK7 HK8 HK9 HK10 HW8 HO9 HO10 HB0 HB1 HR2 HR3 HR6 HR7 HWr HK58 HK810 HK5
        go_loopw [11, 12, 13, 14, 15, 16] (fun i q0 q1 q2 q3 q4 wr => ∃ (k m : Nat) (s : Wire.S), k ≤ TA.length + TB.length ∧ i = .int .i64 (k : Int) ∧ Hid (m ≤ k) ∧ Hid ((k < TA.length ∧ Mid wr (Zone w7.heap.size w8.heap.size w10.heap.size) g s m TA k x) ∨ (TA.length ≤ k ∧ k < TA.length + TB.length ∧ Mid wr (Zone w7.heap.size w8.heap.size w10.heap.size) g s m TB (k - TA.length) y) ∨ (k = TA.length + TB.length ∧ WIs wr (Zone w7.heap.size w8.heap.size w10.heap.size) g Wire.new)) ∧ Hid (Keeps (Zone w7.heap.size w8.heap.size w10.heap.size) w10 wr)) (fun i _ _ _ _ _ _ => TA.length + TB.length - (intOf i).toNat)
        case atStart => exact ⟨0, 0, Wire.new, Nat.zero_le _, rfl, Lib.hid (Nat.le_refl _), Lib.hid (.inl ⟨hpa, HM0.out⟩), Lib.hid (Keeps.refl _ _)⟩
        case round =>
          obtain ⟨k, m, s, hk, rfl, HMk, HM, HKr⟩ := hrel
          have hmk := HMk.out
          have zr := HKr.out.size
          have HBx := Lib.hid (HKr.out.heap HB05.out (fun h => by rcases h with h | h <;> omega))
          have HBy := Lib.hid (HKr.out.heap HB15.out (fun h => by rcases h with h | h <;> omega))
          have HRx := Lib.hid (HR25.out.kept HKr.out (fun k h h' => by rcases h' with h' | h' <;> omega))
          have HRy := Lib.hid (HR35.out.kept HKr.out (fun k h h' => by rcases h' with h' | h' <;> omega))
          by_cases hlt : k < TA.length + TB.length
          · obtain ⟨bl, ol, cl', e1, _⟩ := HRl.out.at (by intro e; have := congrArg List.length e; rw [Disk.bytes8_len, List.length_append, List.length_nil] at this; omega)
            cases e1
            have hbyte := at_byte (HRl.out.kept HKr.out (fun k h h' => by rcases h' with h' | h' <;> omega)) (k := k) (by rw [List.length_append]; exact hlt)
            rcases HM.out with ⟨hka, hM⟩ | ⟨hka, hkb, hM⟩ | ⟨hka, _⟩
            · rw [List.getElem_append_left hka] at hbyte
              have hxb := HTa.out _ (List.getElem_mem hka)
              obtain ⟨d, s', hput, hd, hg2, hh2, hxx, hnn⟩ := hM.next hka HTa.out
              generalize TA[k] = b at *
              obtain ⟨xb1, xb2⟩ := hxb
              have HPut := Lib.hid hput
              have HMs := Lib.hid hM
              have HG2 := Lib.hid hg2
              clear hput hM hg2 HM
              have hzg := HMs.out.is.zone
              have hgl := HMs.out.is.lt
              by_cases hlast : k + 1 = TA.length
              · obtain ⟨hX, hW⟩ := hxx hlast
                have hd' : d = true := by rw [hd]; exact decide_eq_true hlast
                subst hd'
                have q1 : ((k : Int) == (TA.length : Int) - 1) = true := by rw [beq_iff_eq]; omega
                have q2 : ((k : Int) == (TA.length : Int) + (TB.length : Int) - 1) = false := by rw [beq_eq_false_iff_ne]; omega
                have HI0 := Lib.hid (show decide (s'.head = 0) = false from decide_eq_false (by omega))
                have HSX := Lib.hid hX
                clear hd hxx hnn hX
                go_wp2_with (first
                  | (first | (go_at_call 19; refine Rets.use (putW_c HMs.out.is HMs.out.good (by omega) b ⟨xb1, by omega⟩) ?_; rw [HPut.out]; rintro v11 w11 ⟨rfl, h11, hk11⟩; have z11 := hk11.size; have H11 := Lib.hid h11; have HK11 := Lib.hid hk11; clear h11 hk11) | (go_at_call 21; first | (refine Rets.use (idleW_is (b := true) ⟨_, _, HNi.out, rfl⟩) ?_; rintro _ _ ⟨rfl, rfl⟩) | (refine Rets.use (idleW_is (b := false) ⟨_, _, H11.out, HI0.out⟩) ?_; rintro _ _ ⟨rfl, rfl⟩)) | ((with_reducible refine at_ 92 rfl ?_); go_must (refine step_load rfl _ _ rfl W.heap.size 0 (reqC x (.slice A2 x.body.length c2)) _ _ (0, 0) _ rfl (HK11.out.heap HBx.out (fun h => by rcases h with h | h <;> omega)) rfl Try.underlying26 rfl (info_reqC _ _) ?_)) | ((with_reducible refine at_ 14 rfl ?_); go_must (refine step_alloc rfl _ rfl _ zq row_req rfl ?_); intro w12 hb12 hk12 hs12) | ((with_reducible refine at_store 26 (.tmp 14) (.tmp 92) rfl ?_); go_must (refine step_store rfl _ _ _ rfl w11.heap.size 0 (reqC x (.slice A2 x.body.length c2)) _ _ rfl rfl hb12 (by simp [zq, reqC]) (info_reqC _ _) (by simp [reqC, Value.oneCell']) ?_); intro w13 hb13 hk13 hs13; rw [put_whole (by rfl)] at hb13; have HK13 := Lib.hid (fresh_set (Keeps.refl _ w11) hk12 hk13); have HKm := HK13))
                  | (first | (go_at_call 22; refine Rets.use (takeW_yes (H11.out.small.kept HKm.out (fun k h h' => by first | exact h' | (have := h.2; omega))) hW) ?_; rintro v16 w16 ⟨vb, hv, hO16, hW16, hk16⟩; rw [HSX.out] at hv hO16; subst hv; obtain ⟨A16, c16, rfl, _⟩ := hO16.slice; have HO16 := Lib.hid hO16; have HW16 := Lib.hid hW16; have HK16 := Lib.hid hk16; clear hO16 hW16 hk16) | ((with_reducible refine at_ 15 rfl ?_); go_must (refine step_alloc rfl _ rfl _ zq row_req rfl ?_); intro w17 hb17 hk17 hs17) | ((with_reducible refine at_store 26 (.tmp 15) (.tmp 102) rfl ?_); go_must (refine step_store rfl _ _ _ rfl w16.heap.size 0 (reqC x (.slice A16 x.body.length c16)) _ _ rfl rfl hb17 (by simp [zq, reqC]) (info_reqC _ _) (by simp [reqC, Value.oneCell']) ?_); intro w18 hb18 hk18 hs18; rw [put_whole (by rfl)] at hb18; have HK18 := Lib.hid (fresh_set (Keeps.refl _ w16) hk17 hk18)) | ((with_reducible refine at_ 107 rfl ?_); go_must (refine step_load rfl _ _ rfl w16.heap.size 0 (reqC x (.slice A16 x.body.length c16)) _ _ (0, 0) _ rfl hb18 rfl Try.underlying26 rfl (info_reqC _ _) ?_)) | ((with_reducible refine at_ 108 rfl ?_); go_must (refine step_load rfl _ _ rfl w11.heap.size 0 (reqC x (.slice A2 x.body.length c2)) _ _ (0, 0) _ rfl (HK18.out.heap (HK16.out.heap hb13 (fun h => by have h2 : w11.heap.size = g := h; omega)) (fun h => h)) rfl Try.underlying26 rfl (info_reqC _ _) ?_)) | (go_at_call 15; refine Rets.use (same13_self x HX.out (.slice A16 x.body.length c16) (.slice A2 x.body.length c2) (HO16.out.kept HK18.out (fun _ _ h => h)).rd ((((HRx.out.kept HK11.out (fun q h h' => by rcases h' with h' | h' <;> omega)).kept HKm.out (fun q h h' => by first | exact h' | omega)).kept HK16.out (fun q h h' => by rcases hzg with h2 | h2 <;> omega)).kept HK18.out (fun _ _ h => h)) (by omega)) ?_; rintro _ w19 ⟨rfl, hk19⟩; have HNi := Lib.hid (HW16.out.kept (HK18.out.trans hk19 (fun _ _ h => h)) (fun _ _ h => h)); have HNw := Lib.hid (HNi.out.mono (S' := Zone w7.heap.size w8.heap.size w10.heap.size) (fun q h => by subst h; exact hzg)); have HKn := Lib.hid (((((HKr.out.trans HK11.out (fun _ _ h => h)).trans HKm.out (fun q _ h => by first | exact h.elim | exact .inr (by omega))).trans HK16.out (fun q _ h => by subst h; exact hzg)).trans HK18.out (fun _ _ h => h.elim)).trans hk19 (fun _ _ h => h.elim)))))
                go_roundw
                case rel => exact ⟨k + 1, 0, Wire.new, by omega, by go_num, Lib.hid (Nat.zero_le _), Lib.hid (.inr (.inl ⟨by omega, by omega, ⟨HNw.out, WGood.new, rfl, rfl, fun h => (by cases h), by rw [show k + 1 - TA.length = 0 by omega, List.drop_zero]; have := HWy.out; simpa [Wire.whole] using this⟩⟩)), HKn⟩
                case measure => simp [intOf]; omega
              · have hn3 := hnn hlast
                obtain ⟨hb3, hw3, hg3⟩ := hn3
                have hd' : d = false := by rw [hd]; exact decide_eq_false hlast
                subst hd'
                have q1 : ((k : Int) == (TA.length : Int) - 1) = false := by rw [beq_eq_false_iff_ne]; omega
                have q2 : ((k : Int) == (TA.length : Int) + (TB.length : Int) - 1) = false := by rw [beq_eq_false_iff_ne]; omega
                have HI0 := Lib.hid (show decide (s'.head = 0) = false from decide_eq_false (by omega))
                have HG3 := Lib.hid hg3
                clear hd hxx hnn hg3
                go_wp2_with (first | (go_at_call 19; refine Rets.use (putW_c HMs.out.is HMs.out.good (by omega) b ⟨xb1, by omega⟩) ?_; rw [HPut.out]; rintro v11 w11 ⟨rfl, h11, hk11⟩; have z11 := hk11.size; have H11 := Lib.hid h11; have HK11 := Lib.hid hk11; clear h11 hk11) | (go_at_call 21; first | (refine Rets.use (idleW_is (b := true) ⟨_, _, HNi.out, rfl⟩) ?_; rintro _ _ ⟨rfl, rfl⟩) | (refine Rets.use (idleW_is (b := false) ⟨_, _, H11.out, HI0.out⟩) ?_; rintro _ _ ⟨rfl, rfl⟩)) | ((with_reducible refine at_ 92 rfl ?_); go_must (refine step_load rfl _ _ rfl W.heap.size 0 (reqC x (.slice A2 x.body.length c2)) _ _ (0, 0) _ rfl (HK11.out.heap HBx.out (fun h => by rcases h with h | h <;> omega)) rfl Try.underlying26 rfl (info_reqC _ _) ?_)) | ((with_reducible refine at_ 14 rfl ?_); go_must (refine step_alloc rfl _ rfl _ zq row_req rfl ?_); intro w12 hb12 hk12 hs12) | ((with_reducible refine at_store 26 (.tmp 14) (.tmp 92) rfl ?_); go_must (refine step_store rfl _ _ _ rfl w11.heap.size 0 (reqC x (.slice A2 x.body.length c2)) _ _ rfl rfl hb12 (by simp [zq, reqC]) (info_reqC _ _) (by simp [reqC, Value.oneCell']) ?_); intro w13 hb13 hk13 hs13; rw [put_whole (by rfl)] at hb13; have HK13 := Lib.hid (fresh_set (Keeps.refl _ w11) hk12 hk13); have HKm := HK13))
                go_roundw
                case rel => exact ⟨k + 1, m + 1, s', by omega, by go_num, Lib.hid (by omega), Lib.hid (.inl ⟨by omega, ⟨H11.out.mono (fun q h => h.elim id (fun h => .inr (by omega))), HG2.out, hb3, hw3, fun _ => hh2, HG3.out⟩⟩), Lib.hid (HKr.out.trans HK11.out (fun _ _ h => h))⟩
                case measure => simp [intOf]; omega
            · rw [List.getElem_append_right hka] at hbyte
              have hkj : k - TA.length < TB.length := by omega
              have hxb := HTb.out _ (List.getElem_mem hkj)
              obtain ⟨d, s', hput, hd, hg2, hh2, hxx, hnn⟩ := hM.next hkj HTb.out
              generalize TB[k - TA.length] = b at *
              obtain ⟨xb1, xb2⟩ := hxb
              have HPut := Lib.hid hput
              have HMs := Lib.hid hM
              have HG2 := Lib.hid hg2
              clear hput hM hg2 HM
              have hzg := HMs.out.is.zone
              have hgl := HMs.out.is.lt
              by_cases hlast : k + 1 = TA.length + TB.length
              · obtain ⟨hX, hW⟩ := hxx (by omega)
                have hd' : d = true := by rw [hd]; exact decide_eq_true (by omega)
                subst hd'
                have q1 : ((k : Int) == (TA.length : Int) - 1) = false := by rw [beq_eq_false_iff_ne]; omega
                have q2 : ((k : Int) == (TA.length : Int) + (TB.length : Int) - 1) = true := by rw [beq_iff_eq]; omega
                have HI0 := Lib.hid (show decide (s'.head = 0) = false from decide_eq_false (by omega))
                have HSX := Lib.hid hX
                clear hd hxx hnn hX
                go_wp2_with (first
                  | (first | (go_at_call 19; refine Rets.use (putW_c HMs.out.is HMs.out.good (by omega) b ⟨xb1, by omega⟩) ?_; rw [HPut.out]; rintro v11 w11 ⟨rfl, h11, hk11⟩; have z11 := hk11.size; have H11 := Lib.hid h11; have HK11 := Lib.hid hk11; clear h11 hk11) | (go_at_call 21; first | (refine Rets.use (idleW_is (b := true) ⟨_, _, HNi.out, rfl⟩) ?_; rintro _ _ ⟨rfl, rfl⟩) | (refine Rets.use (idleW_is (b := false) ⟨_, _, H11.out, HI0.out⟩) ?_; rintro _ _ ⟨rfl, rfl⟩)) | ((with_reducible refine at_ 92 rfl ?_); go_must (refine step_load rfl _ _ rfl W.heap.size 0 (reqC x (.slice A2 x.body.length c2)) _ _ (0, 0) _ rfl (HK11.out.heap HBx.out (fun h => by rcases h with h | h <;> omega)) rfl Try.underlying26 rfl (info_reqC _ _) ?_)) | ((with_reducible refine at_ 14 rfl ?_); go_must (refine step_alloc rfl _ rfl _ zq row_req rfl ?_); intro w12 hb12 hk12 hs12) | ((with_reducible refine at_store 26 (.tmp 14) (.tmp 92) rfl ?_); go_must (refine step_store rfl _ _ _ rfl w11.heap.size 0 (reqC x (.slice A2 x.body.length c2)) _ _ rfl rfl hb12 (by simp [zq, reqC]) (info_reqC _ _) (by simp [reqC, Value.oneCell']) ?_); intro w13 hb13 hk13 hs13; rw [put_whole (by rfl)] at hb13; have HK13 := Lib.hid (fresh_set (Keeps.refl _ w11) hk12 hk13); have HKm := HK13))
                  | ((with_reducible refine at_ 98 rfl ?_); go_must (refine step_load rfl _ _ rfl (W.heap.size + 1) 0 (reqC y (.slice A3 y.body.length c3)) _ _ (0, 0) _ rfl (HK13.out.heap (HK11.out.heap HBy.out (fun h => by rcases h with h | h <;> omega)) (fun h => h)) rfl Try.underlying26 rfl (info_reqC _ _) ?_))
                  | ((with_reducible refine at_store 26 (.tmp 14) (.tmp 98) rfl ?_); go_must (refine step_store rfl _ _ _ rfl w11.heap.size 0 (reqC y (.slice A3 y.body.length c3)) _ _ rfl rfl hb13 (by simp [reqC]) (info_reqC _ _) (by simp [reqC, Value.oneCell']) ?_); intro w14 hb14 hk14 hs14; rw [put_whole (by rfl)] at hb14; have HK14 := Lib.hid ((HK13.out.mono (S' := fun k => w11.heap.size ≤ k) (fun _ _ h => h.elim)).trans (S' := fun k => w11.heap.size ≤ k) (hk14.mono (fun k _ h => Nat.le_of_eq h.symm)) (fun _ _ h => h)); have HKm := HK14)
                  | (first | (go_at_call 22; refine Rets.use (takeW_yes (H11.out.small.kept HKm.out (fun k h h' => by first | exact h' | (have := h.2; omega))) hW) ?_; rintro v16 w16 ⟨vb, hv, hO16, hW16, hk16⟩; rw [HSX.out] at hv hO16; subst hv; obtain ⟨A16, c16, rfl, _⟩ := hO16.slice; have HO16 := Lib.hid hO16; have HW16 := Lib.hid hW16; have HK16 := Lib.hid hk16; clear hO16 hW16 hk16) | ((with_reducible refine at_ 15 rfl ?_); go_must (refine step_alloc rfl _ rfl _ zq row_req rfl ?_); intro w17 hb17 hk17 hs17) | ((with_reducible refine at_store 26 (.tmp 15) (.tmp 102) rfl ?_); go_must (refine step_store rfl _ _ _ rfl w16.heap.size 0 (reqC y (.slice A16 y.body.length c16)) _ _ rfl rfl hb17 (by simp [zq, reqC]) (info_reqC _ _) (by simp [reqC, Value.oneCell']) ?_); intro w18 hb18 hk18 hs18; rw [put_whole (by rfl)] at hb18; have HK18 := Lib.hid (fresh_set (Keeps.refl _ w16) hk17 hk18)) | ((with_reducible refine at_ 107 rfl ?_); go_must (refine step_load rfl _ _ rfl w16.heap.size 0 (reqC y (.slice A16 y.body.length c16)) _ _ (0, 0) _ rfl hb18 rfl Try.underlying26 rfl (info_reqC _ _) ?_)) | ((with_reducible refine at_ 108 rfl ?_); go_must (refine step_load rfl _ _ rfl w11.heap.size 0 (reqC y (.slice A3 y.body.length c3)) _ _ (0, 0) _ rfl (HK18.out.heap (HK16.out.heap hb14 (fun h => by have h2 : w11.heap.size = g := h; omega)) (fun h => h)) rfl Try.underlying26 rfl (info_reqC _ _) ?_)) | (go_at_call 15; refine Rets.use (same13_self y HY.out (.slice A16 y.body.length c16) (.slice A3 y.body.length c3) (HO16.out.kept HK18.out (fun _ _ h => h)).rd ((((HRy.out.kept HK11.out (fun q h h' => by rcases h' with h' | h' <;> omega)).kept HKm.out (fun q h h' => by first | exact h' | omega)).kept HK16.out (fun q h h' => by rcases hzg with h2 | h2 <;> omega)).kept HK18.out (fun _ _ h => h)) (by omega)) ?_; rintro _ w19 ⟨rfl, hk19⟩; have HNi := Lib.hid (HW16.out.kept (HK18.out.trans hk19 (fun _ _ h => h)) (fun _ _ h => h)); have HNw := Lib.hid (HNi.out.mono (S' := Zone w7.heap.size w8.heap.size w10.heap.size) (fun q h => by subst h; exact hzg)); have HKn := Lib.hid (((((HKr.out.trans HK11.out (fun _ _ h => h)).trans HKm.out (fun q _ h => by first | exact h.elim | exact .inr (by omega))).trans HK16.out (fun q _ h => by subst h; exact hzg)).trans HK18.out (fun _ _ h => h.elim)).trans hk19 (fun _ _ h => h.elim)))))
                go_roundw
                case rel => exact ⟨k + 1, 0, Wire.new, by omega, by go_num, Lib.hid (Nat.zero_le _), Lib.hid (.inr (.inr ⟨by omega, HNw.out⟩)), HKn⟩
                case measure => simp [intOf]; omega
              · have hn3 := hnn (by omega)
                obtain ⟨hb3, hw3, hg3⟩ := hn3
                have hd' : d = false := by rw [hd]; exact decide_eq_false (by omega)
                subst hd'
                have q1 : ((k : Int) == (TA.length : Int) - 1) = false := by rw [beq_eq_false_iff_ne]; omega
                have q2 : ((k : Int) == (TA.length : Int) + (TB.length : Int) - 1) = false := by rw [beq_eq_false_iff_ne]; omega
                have HI0 := Lib.hid (show decide (s'.head = 0) = false from decide_eq_false (by omega))
                have HG3 := Lib.hid hg3
                clear hd hxx hnn hg3
                go_wp2_with (first | (go_at_call 19; refine Rets.use (putW_c HMs.out.is HMs.out.good (by omega) b ⟨xb1, by omega⟩) ?_; rw [HPut.out]; rintro v11 w11 ⟨rfl, h11, hk11⟩; have z11 := hk11.size; have H11 := Lib.hid h11; have HK11 := Lib.hid hk11; clear h11 hk11) | (go_at_call 21; first | (refine Rets.use (idleW_is (b := true) ⟨_, _, HNi.out, rfl⟩) ?_; rintro _ _ ⟨rfl, rfl⟩) | (refine Rets.use (idleW_is (b := false) ⟨_, _, H11.out, HI0.out⟩) ?_; rintro _ _ ⟨rfl, rfl⟩)) | ((with_reducible refine at_ 92 rfl ?_); go_must (refine step_load rfl _ _ rfl W.heap.size 0 (reqC x (.slice A2 x.body.length c2)) _ _ (0, 0) _ rfl (HK11.out.heap HBx.out (fun h => by rcases h with h | h <;> omega)) rfl Try.underlying26 rfl (info_reqC _ _) ?_)) | ((with_reducible refine at_ 14 rfl ?_); go_must (refine step_alloc rfl _ rfl _ zq row_req rfl ?_); intro w12 hb12 hk12 hs12) | ((with_reducible refine at_store 26 (.tmp 14) (.tmp 92) rfl ?_); go_must (refine step_store rfl _ _ _ rfl w11.heap.size 0 (reqC x (.slice A2 x.body.length c2)) _ _ rfl rfl hb12 (by simp [zq, reqC]) (info_reqC _ _) (by simp [reqC, Value.oneCell']) ?_); intro w13 hb13 hk13 hs13; rw [put_whole (by rfl)] at hb13; have HK13 := Lib.hid (fresh_set (Keeps.refl _ w11) hk12 hk13); have HKm := HK13))
                go_roundw
                case rel => exact ⟨k + 1, m + 1, s', by omega, by go_num, Lib.hid (by omega), Lib.hid (.inr (.inl ⟨by omega, by omega, ⟨H11.out.mono (fun q h => h.elim id (fun h => .inr (by omega))), HG2.out, hb3, hw3, fun _ => hh2, by rw [show k + 1 - TA.length = k - TA.length + 1 by omega]; exact HG3.out⟩⟩)), Lib.hid (HKr.out.trans HK11.out (fun _ _ h => h))⟩
                case measure => simp [intOf]; omega
            · omega
          · rcases HM.out with ⟨hka, _⟩ | ⟨_, hkb, _⟩ | ⟨hka, hW⟩
            · omega
            · omega
            · have HWe := Lib.hid hW
              clear hW HM
              have hge : ¬ (k : Int) < (TA.length : Int) + (TB.length : Int) := by omega
              go_wp2_with (first
                | (go_at_call 22; refine Rets.use (takeW_no HWe.out rfl) ?_; rintro _ w11 ⟨rfl, hk11⟩)
                | ((with_reducible refine at_ 17 rfl ?_); go_must (refine step_alloc rfl _ rfl _ zq row_req rfl ?_); intro w12 hb12 hk12 hs12)
                | ((with_reducible refine at_store 26 (.tmp 17) (.tmp 120) rfl ?_); go_must (refine step_store rfl _ _ _ rfl w11.heap.size 0 (reqC Wire.zeroR (.slice none 0 0)) _ _ rfl rfl hb12 (by simp [zq, reqC]) (info_reqC _ _) (by simp [reqC, Value.oneCell']) ?_); intro w13 hb13 hk13 hs13)
                | (go_at_call 17; refine Rets.use (lives13_c _) ?_; rintro v14 w14 ⟨rfl, hk14⟩))
              go_ret
              have hkz := (((HKf.out.trans HKr.out (fun k _ h => by rcases h with h | h <;> omega)).trans hk11 (fun _ _ h => h.elim)).trans (fresh_set (Keeps.refl _ w11) hk12 hk13) (fun _ _ h => h.elim)).trans hk14 (fun _ _ h => h.elim)
              exact ⟨rfl, hkz.mono (fun k hk h => by omega)⟩
  · go_wp2_with ((with_reducible refine at_ 21 rfl ?_); go_must (refine step_load rfl _ _ rfl (W.heap.size + 1) 0 (reqC r2 (.slice Ab r2.body.length cb)) _ _ (0, 0) _ rfl H1.out rfl Try.underlying26 rfl (info_reqC _ _) ?_))
    refine ⟨fun p hp => (by cases hp), ?_⟩
    go_wp2_with (go_at_call 24; go_loud (refine Rets.use (HC1.out wd HK.out) ?_); rintro _ w2 ⟨hk2, u2, rfl, hO2⟩)
    refine ⟨fun p hp => (by cases hp), ?_⟩
    obtain ⟨A2, c2, rfl, _⟩ := hO2.slice
    go_wp2_with (first
      | ((with_reducible refine at_store 26 (.tmp 2) (.tmp 20) rfl ?_); go_must (refine step_store rfl _ _ _ rfl W.heap.size 0 (reqC x (.slice A2 x.body.length c2)) _ _ rfl rfl (hk3.heap (hk2.heap H0.out (fun h => h)) (fun h => h)) (by simp [reqC]) (info_reqC _ _) (by simp [reqC, Value.oneCell']) ?_); intro w4 hb4 hk4 hs4; rw [put_whole (by rfl)] at hb4)
      | ((with_reducible refine at_store 26 (.tmp 3) (.tmp 22) rfl ?_); go_must (refine step_store rfl _ _ _ rfl (W.heap.size + 1) 0 (reqC y (.slice A3 y.body.length c3)) _ _ rfl rfl (hk4.heap (hk3.heap (hk2.heap H1.out (fun h => h)) (fun h => h)) (fun h => by omega)) (by simp [reqC]) (info_reqC _ _) (by simp [reqC, Value.oneCell']) ?_); intro w5 hb5 hk5 hs5; rw [put_whole (by rfl)] at hb5)
      | (go_at_call 24; go_loud (refine Rets.use (HC2.out w2 (HK.out.trans hk2 (fun _ _ h => h))) ?_); rintro _ w3 ⟨hk3, u3, rfl, hO3⟩; obtain ⟨A3, c3, rfl, _⟩ := hO3.slice))
    refine ⟨by rfl, trivial, ?_⟩
    have z0 := HZ.out
    have HB0 := Lib.hid (hk5.heap hb4 (fun h => by omega))
    have HB1 := Lib.hid hb5
    have z23 := hk2.size
    have z33 := hk3.size
    have HR2 := Lib.hid (((((hO2.rd.kept hk3 (fun _ _ h => h)).kept hk4 (fun k h h' => by omega)).kept hk5 (fun k h h' => by omega)).lt.mono (ok' := fun k => k < w5.heap.size) (fun k h => h.2)))
    have HR3 := Lib.hid (((hO3.rd.kept hk4 (fun k h h' => by omega)).kept hk5 (fun k h h' => by omega)).lt.mono (ok' := fun k => k < w5.heap.size) (fun k h => h.2))
    have HK5 := Lib.hid ((((HK.out.trans hk2 (fun _ _ h => h)).trans hk3 (fun _ _ h => h)).trans hk4 (fun k hk h => by omega)).trans hk5 (fun k hk h => by omega))
    have hz5 : W.heap.size + 2 ≤ w5.heap.size := by omega
    clear hk2 hk3 hk4 hk5 hs4 hs5 hb4 hb5 hO2 hO3 H0 H1 z23 z33 z0 HC1 HC2
    rcases printF_cases x with hp | ⟨hp, hwx⟩
    · have HPx := Lib.hid hp
      have HPy := Lib.hid (rfl : Wire.printF y = Wire.printF y)
      clear hp
      clear HPy
      obtain ⟨py, ey⟩ : ∃ p, Wire.printF y = p := ⟨_, rfl⟩
      have HPy := Lib.hid ey
      clear ey
      obtain ⟨py1, py2⟩ := py
      go_wp2_with (first
        | (first | ((with_reducible refine at_ 24 rfl ?_); go_must (refine step_load rfl _ _ rfl W.heap.size 0 (reqC x (.slice A2 x.body.length c2)) _ _ (0, 0) _ rfl HB0.out rfl Try.underlying26 rfl (info_reqC _ _) ?_)) | ((with_reducible refine at_ 29 rfl ?_); go_must (refine step_load rfl _ _ rfl (W.heap.size + 1) 0 (reqC y (.slice A3 y.body.length c3)) _ _ (0, 0) _ rfl (HK6.out.heap HB1.out (fun h => h)) rfl Try.underlying26 rfl (info_reqC _ _) ?_)) | (go_at_call 25; first | (refine Rets.use (printW_of x HX.out HXf.out (.slice A2 x.body.length c2) (by rfl) HR2.out) ?_; rw [HPx.out]; rintro _ w6 ⟨hk6, u6, rfl, hr6⟩; have HR6 := Lib.hid hr6; have HK6 := Lib.hid hk6; clear hr6) | (refine Rets.use (printW_of y HY.out HYf.out (.slice A3 y.body.length c3) (by rfl) (HR3.out.kept HK6.out (fun _ _ h => h))) ?_; rw [HPy.out]; rintro _ w7 ⟨hk7, u7, rfl, hr7⟩; have HR7 := Lib.hid hr7; have HK7 := Lib.hid hk7; clear hr7)) | (go_at_call 18; refine Rets.use (newW_c _) ?_; rintro v8 w8 ⟨hk8, g, hg, rfl, hW8⟩; have HW8 := Lib.hid hW8; have HK8 := Lib.hid hk8; clear hW8))
        | (go_at_call 17; refine Rets.use (lives13_c _) ?_; rintro v14 w14 ⟨rfl, hk14⟩))
      go_ret
      exact ⟨rfl, (((HK5.out.trans HK6.out (fun _ _ h => h)).trans HK7.out (fun _ _ h => h)).trans HK8.out (fun _ _ h => h)).trans hk14 (fun _ _ h => h)⟩
    · rcases printF_cases y with hq | ⟨hq, hwy⟩
      · have HPx := Lib.hid hp
        have HPy := Lib.hid hq
        clear hp hq hwx
        go_wp2_with (first
          | (first | ((with_reducible refine at_ 24 rfl ?_); go_must (refine step_load rfl _ _ rfl W.heap.size 0 (reqC x (.slice A2 x.body.length c2)) _ _ (0, 0) _ rfl HB0.out rfl Try.underlying26 rfl (info_reqC _ _) ?_)) | ((with_reducible refine at_ 29 rfl ?_); go_must (refine step_load rfl _ _ rfl (W.heap.size + 1) 0 (reqC y (.slice A3 y.body.length c3)) _ _ (0, 0) _ rfl (HK6.out.heap HB1.out (fun h => h)) rfl Try.underlying26 rfl (info_reqC _ _) ?_)) | (go_at_call 25; first | (refine Rets.use (printW_of x HX.out HXf.out (.slice A2 x.body.length c2) (by rfl) HR2.out) ?_; rw [HPx.out]; rintro _ w6 ⟨hk6, u6, rfl, hr6⟩; have HR6 := Lib.hid hr6; have HK6 := Lib.hid hk6; clear hr6) | (refine Rets.use (printW_of y HY.out HYf.out (.slice A3 y.body.length c3) (by rfl) (HR3.out.kept HK6.out (fun _ _ h => h))) ?_; rw [HPy.out]; rintro _ w7 ⟨hk7, u7, rfl, hr7⟩; have HR7 := Lib.hid hr7; have HK7 := Lib.hid hk7; clear hr7)) | (go_at_call 18; refine Rets.use (newW_c _) ?_; rintro v8 w8 ⟨hk8, g, hg, rfl, hW8⟩; have HW8 := Lib.hid hW8; have HK8 := Lib.hid hk8; clear hW8))
          | (go_at_call 17; refine Rets.use (lives13_c _) ?_; rintro v14 w14 ⟨rfl, hk14⟩))
        go_ret
        exact ⟨rfl, (((HK5.out.trans HK6.out (fun _ _ h => h)).trans HK7.out (fun _ _ h => h)).trans HK8.out (fun _ _ h => h)).trans hk14 (fun _ _ h => h)⟩
      · have HPx := Lib.hid hp
        have HPy := Lib.hid hq
        have hpa := text_pos x
        have hpb := text_pos y
        have hla : (Wire.text x).length ≤ 4100 := by have := front_len HXf.out; unfold Wire.text; rw [List.length_append]; omega
        have hlb : (Wire.text y).length ≤ 4100 := by have := front_len HYf.out; unfold Wire.text; rw [List.length_append]; omega
        have HTa := Lib.hid (text_b HX.out)
        have HTb := Lib.hid (text_b HY.out)
        obtain ⟨TA, hTA⟩ : ∃ T, Wire.text x = T := ⟨_, rfl⟩
        obtain ⟨TB, hTB⟩ : ∃ T, Wire.text y = T := ⟨_, rfl⟩
        rw [hTA] at HPx hpa hla HTa hwx
        rw [hTB] at HPy hpb hlb HTb hwy
        have HWx := Lib.hid hwx
        have HWy := Lib.hid hwy
        clear hp hq hTA hTB hwx hwy
        go_wp2_with (first
          | (first | ((with_reducible refine at_ 24 rfl ?_); go_must (refine step_load rfl _ _ rfl W.heap.size 0 (reqC x (.slice A2 x.body.length c2)) _ _ (0, 0) _ rfl HB0.out rfl Try.underlying26 rfl (info_reqC _ _) ?_)) | ((with_reducible refine at_ 29 rfl ?_); go_must (refine step_load rfl _ _ rfl (W.heap.size + 1) 0 (reqC y (.slice A3 y.body.length c3)) _ _ (0, 0) _ rfl (HK6.out.heap HB1.out (fun h => h)) rfl Try.underlying26 rfl (info_reqC _ _) ?_)) | (go_at_call 25; first | (refine Rets.use (printW_of x HX.out HXf.out (.slice A2 x.body.length c2) (by rfl) HR2.out) ?_; rw [HPx.out]; rintro _ w6 ⟨hk6, u6, rfl, hr6⟩; have HR6 := Lib.hid hr6; have HK6 := Lib.hid hk6; clear hr6) | (refine Rets.use (printW_of y HY.out HYf.out (.slice A3 y.body.length c3) (by rfl) (HR3.out.kept HK6.out (fun _ _ h => h))) ?_; rw [HPy.out]; rintro _ w7 ⟨hk7, u7, rfl, hr7⟩; have HR7 := Lib.hid hr7; have HK7 := Lib.hid hk7; clear hr7)) | (go_at_call 18; refine Rets.use (newW_c _) ?_; rintro v8 w8 ⟨hk8, g, hg, rfl, hW8⟩; have HW8 := Lib.hid hW8; have HK8 := Lib.hid hk8; clear hW8))
          | (go_at_call 12; refine Rets.use (copy_c u6 TA (HR6.out.kept (HK7.out.trans HK8.out (fun _ _ h => h)) (fun _ _ h => h)) (by omega)) ?_; rintro v9 w9 ⟨hO9, hk9⟩; have HO9 := Lib.hid hO9; have HK9 := Lib.hid hk9; clear hO9)
          | ((with_reducible refine at_ 52 rfl ?_); go_must (refine step_append_rd (ok2 := fun k => w6.heap.size ≤ k) rfl _ _ _ rfl 5 _ 1 1 Try.underlying22 row_byte rfl (by decide) v9 TA.length (Disk.bytes8 TA) rfl HO9.out u7 TB.length (Disk.bytes8 TB) rfl ((HR7.out.kept HK8.out (fun _ _ h => h)).kept HK9.out (fun _ _ h => h)) (by rw [Disk.bytes8_len, Nat.mul_one]) (Disk.bytes8_one TB) (by simp only [maxLen]; omega) (by omega) ?_); intro v10 w10 hO10 hk10; have HO10 := Lib.hid hO10; have HOx := HO9.out; have HK10 := Lib.hid (hk10.mono (S' := fun k => w8.heap.size ≤ k) (fun k _ h => HOx.2 k h)); obtain ⟨Al, cl, rfl, _⟩ := hO10.slice; clear hO10 hk10 HOx))
        obtain ⟨A6, c6, hu6, _⟩ := HR6.out.slice
        subst hu6
        have z57 := HK7.out.size
        have z56 := HK6.out.size
        have z78 := HK8.out.size
        have z89 := HK9.out.size
        have z910 := HK10.out.size
        have HK810 := Lib.hid ((HK9.out.mono (S' := fun k => w8.heap.size ≤ k) (fun _ _ h => h.elim)).trans HK10.out (fun _ _ h => h))
        have HK58 := Lib.hid ((HK6.out.trans HK7.out (fun _ _ h => h)).trans HK8.out (fun _ _ h => h))
        have HWr := Lib.hid ((HW8.out.small.kept HK810.out (fun k h h' => by omega)).mono (S' := Zone w7.heap.size w8.heap.size w10.heap.size) (fun k h => .inl h))
        have HRl := Lib.hid (show Rd w10 (fun k => w8.heap.size ≤ k ∧ k < w10.heap.size) (.slice Al (TA.length + TB.length) cl) (TA.length + TB.length) (Disk.bytes8 (TA ++ TB)) by rw [Disk.bytes8_append]; exact HO10.out.rd.lt.mono (fun k h => ⟨by have := h.1; omega, h.2⟩))
        have HB05 := Lib.hid (HK810.out.heap (HK58.out.heap HB0.out (fun h => h)) (fun h => by omega))
        have HB15 := Lib.hid (HK810.out.heap (HK58.out.heap HB1.out (fun h => h)) (fun h => by omega))
        have HR25 := Lib.hid ((HR2.out.kept HK58.out (fun _ _ h => h)).kept HK810.out (fun k h h' => by omega))
        have HR35 := Lib.hid ((HR3.out.kept HK58.out (fun _ _ h => h)).kept HK810.out (fun k h h' => by omega))
        have HKf := Lib.hid (((HK5.out.trans HK58.out (fun _ _ h => h)).mono (S' := fun k => W.heap.size ≤ k) (fun _ _ h => h.elim)).trans HK810.out (fun k _ h => by omega))
        have HM0 := Lib.hid (show Mid w10 (Zone w7.heap.size w8.heap.size w10.heap.size) g Wire.new 0 TA 0 x from ⟨HWr.out, WGood.new, rfl, rfl, fun h => (by cases h), by rw [List.drop_zero]; have := HWx.out; simpa [Wire.whole] using this⟩)
        clear HK6 HK7 HK8 HK9 HK10 HW8 HO9 HO10 HB0 HB1 HR2 HR3 HR6 HR7 HWr HK58 HK810 HK5
        go_loopw [11, 12, 13, 14, 15, 16] (fun i q0 q1 q2 q3 q4 wr => ∃ (k m : Nat) (s : Wire.S), k ≤ TA.length + TB.length ∧ i = .int .i64 (k : Int) ∧ Hid (m ≤ k) ∧ Hid ((k < TA.length ∧ Mid wr (Zone w7.heap.size w8.heap.size w10.heap.size) g s m TA k x) ∨ (TA.length ≤ k ∧ k < TA.length + TB.length ∧ Mid wr (Zone w7.heap.size w8.heap.size w10.heap.size) g s m TB (k - TA.length) y) ∨ (k = TA.length + TB.length ∧ WIs wr (Zone w7.heap.size w8.heap.size w10.heap.size) g Wire.new)) ∧ Hid (Keeps (Zone w7.heap.size w8.heap.size w10.heap.size) w10 wr)) (fun i _ _ _ _ _ _ => TA.length + TB.length - (intOf i).toNat)
        case atStart => exact ⟨0, 0, Wire.new, Nat.zero_le _, rfl, Lib.hid (Nat.le_refl _), Lib.hid (.inl ⟨hpa, HM0.out⟩), Lib.hid (Keeps.refl _ _)⟩
        case round =>
          obtain ⟨k, m, s, hk, rfl, HMk, HM, HKr⟩ := hrel
          have hmk := HMk.out
          have zr := HKr.out.size
          have HBx := Lib.hid (HKr.out.heap HB05.out (fun h => by rcases h with h | h <;> omega))
          have HBy := Lib.hid (HKr.out.heap HB15.out (fun h => by rcases h with h | h <;> omega))
          have HRx := Lib.hid (HR25.out.kept HKr.out (fun k h h' => by rcases h' with h' | h' <;> omega))
          have HRy := Lib.hid (HR35.out.kept HKr.out (fun k h h' => by rcases h' with h' | h' <;> omega))
          by_cases hlt : k < TA.length + TB.length
          · obtain ⟨bl, ol, cl', e1, _⟩ := HRl.out.at (by intro e; have := congrArg List.length e; rw [Disk.bytes8_len, List.length_append, List.length_nil] at this; omega)
            cases e1
            have hbyte := at_byte (HRl.out.kept HKr.out (fun k h h' => by rcases h' with h' | h' <;> omega)) (k := k) (by rw [List.length_append]; exact hlt)
            rcases HM.out with ⟨hka, hM⟩ | ⟨hka, hkb, hM⟩ | ⟨hka, _⟩
            · rw [List.getElem_append_left hka] at hbyte
              have hxb := HTa.out _ (List.getElem_mem hka)
              obtain ⟨d, s', hput, hd, hg2, hh2, hxx, hnn⟩ := hM.next hka HTa.out
              generalize TA[k] = b at *
              obtain ⟨xb1, xb2⟩ := hxb
              have HPut := Lib.hid hput
              have HMs := Lib.hid hM
              have HG2 := Lib.hid hg2
              clear hput hM hg2 HM
              have hzg := HMs.out.is.zone
              have hgl := HMs.out.is.lt
              by_cases hlast : k + 1 = TA.length
              · obtain ⟨hX, hW⟩ := hxx hlast
                have hd' : d = true := by rw [hd]; exact decide_eq_true hlast
                subst hd'
                have q1 : ((k : Int) == (TA.length : Int) - 1) = true := by rw [beq_iff_eq]; omega
                have q2 : ((k : Int) == (TA.length : Int) + (TB.length : Int) - 1) = false := by rw [beq_eq_false_iff_ne]; omega
                have HI0 := Lib.hid (show decide (s'.head = 0) = false from decide_eq_false (by omega))
                have HSX := Lib.hid hX
                clear hd hxx hnn hX
                go_wp2_with (first
                  | (first | (go_at_call 19; refine Rets.use (putW_c HMs.out.is HMs.out.good (by omega) b ⟨xb1, by omega⟩) ?_; rw [HPut.out]; rintro v11 w11 ⟨rfl, h11, hk11⟩; have z11 := hk11.size; have H11 := Lib.hid h11; have HK11 := Lib.hid hk11; clear h11 hk11) | (go_at_call 21; first | (refine Rets.use (idleW_is (b := true) ⟨_, _, HNi.out, rfl⟩) ?_; rintro _ _ ⟨rfl, rfl⟩) | (refine Rets.use (idleW_is (b := false) ⟨_, _, H11.out, HI0.out⟩) ?_; rintro _ _ ⟨rfl, rfl⟩)) | ((with_reducible refine at_ 92 rfl ?_); go_must (refine step_load rfl _ _ rfl W.heap.size 0 (reqC x (.slice A2 x.body.length c2)) _ _ (0, 0) _ rfl (HK11.out.heap HBx.out (fun h => by rcases h with h | h <;> omega)) rfl Try.underlying26 rfl (info_reqC _ _) ?_)) | ((with_reducible refine at_ 14 rfl ?_); go_must (refine step_alloc rfl _ rfl _ zq row_req rfl ?_); intro w12 hb12 hk12 hs12) | ((with_reducible refine at_store 26 (.tmp 14) (.tmp 92) rfl ?_); go_must (refine step_store rfl _ _ _ rfl w11.heap.size 0 (reqC x (.slice A2 x.body.length c2)) _ _ rfl rfl hb12 (by simp [zq, reqC]) (info_reqC _ _) (by simp [reqC, Value.oneCell']) ?_); intro w13 hb13 hk13 hs13; rw [put_whole (by rfl)] at hb13; have HK13 := Lib.hid (fresh_set (Keeps.refl _ w11) hk12 hk13); have HKm := HK13))
                  | (first | (go_at_call 22; refine Rets.use (takeW_yes (H11.out.small.kept HKm.out (fun k h h' => by first | exact h' | (have := h.2; omega))) hW) ?_; rintro v16 w16 ⟨vb, hv, hO16, hW16, hk16⟩; rw [HSX.out] at hv hO16; subst hv; obtain ⟨A16, c16, rfl, _⟩ := hO16.slice; have HO16 := Lib.hid hO16; have HW16 := Lib.hid hW16; have HK16 := Lib.hid hk16; clear hO16 hW16 hk16) | ((with_reducible refine at_ 15 rfl ?_); go_must (refine step_alloc rfl _ rfl _ zq row_req rfl ?_); intro w17 hb17 hk17 hs17) | ((with_reducible refine at_store 26 (.tmp 15) (.tmp 102) rfl ?_); go_must (refine step_store rfl _ _ _ rfl w16.heap.size 0 (reqC x (.slice A16 x.body.length c16)) _ _ rfl rfl hb17 (by simp [zq, reqC]) (info_reqC _ _) (by simp [reqC, Value.oneCell']) ?_); intro w18 hb18 hk18 hs18; rw [put_whole (by rfl)] at hb18; have HK18 := Lib.hid (fresh_set (Keeps.refl _ w16) hk17 hk18)) | ((with_reducible refine at_ 107 rfl ?_); go_must (refine step_load rfl _ _ rfl w16.heap.size 0 (reqC x (.slice A16 x.body.length c16)) _ _ (0, 0) _ rfl hb18 rfl Try.underlying26 rfl (info_reqC _ _) ?_)) | ((with_reducible refine at_ 108 rfl ?_); go_must (refine step_load rfl _ _ rfl w11.heap.size 0 (reqC x (.slice A2 x.body.length c2)) _ _ (0, 0) _ rfl (HK18.out.heap (HK16.out.heap hb13 (fun h => by have h2 : w11.heap.size = g := h; omega)) (fun h => h)) rfl Try.underlying26 rfl (info_reqC _ _) ?_)) | (go_at_call 15; refine Rets.use (same13_self x HX.out (.slice A16 x.body.length c16) (.slice A2 x.body.length c2) (HO16.out.kept HK18.out (fun _ _ h => h)).rd ((((HRx.out.kept HK11.out (fun q h h' => by rcases h' with h' | h' <;> omega)).kept HKm.out (fun q h h' => by first | exact h' | omega)).kept HK16.out (fun q h h' => by rcases hzg with h2 | h2 <;> omega)).kept HK18.out (fun _ _ h => h)) (by omega)) ?_; rintro _ w19 ⟨rfl, hk19⟩; have HNi := Lib.hid (HW16.out.kept (HK18.out.trans hk19 (fun _ _ h => h)) (fun _ _ h => h)); have HNw := Lib.hid (HNi.out.mono (S' := Zone w7.heap.size w8.heap.size w10.heap.size) (fun q h => by subst h; exact hzg)); have HKn := Lib.hid (((((HKr.out.trans HK11.out (fun _ _ h => h)).trans HKm.out (fun q _ h => by first | exact h.elim | exact .inr (by omega))).trans HK16.out (fun q _ h => by subst h; exact hzg)).trans HK18.out (fun _ _ h => h.elim)).trans hk19 (fun _ _ h => h.elim)))))
                go_roundw
                case rel => exact ⟨k + 1, 0, Wire.new, by omega, by go_num, Lib.hid (Nat.zero_le _), Lib.hid (.inr (.inl ⟨by omega, by omega, ⟨HNw.out, WGood.new, rfl, rfl, fun h => (by cases h), by rw [show k + 1 - TA.length = 0 by omega, List.drop_zero]; have := HWy.out; simpa [Wire.whole] using this⟩⟩)), HKn⟩
                case measure => simp [intOf]; omega
              · have hn3 := hnn hlast
                obtain ⟨hb3, hw3, hg3⟩ := hn3
                have hd' : d = false := by rw [hd]; exact decide_eq_false hlast
                subst hd'
                have q1 : ((k : Int) == (TA.length : Int) - 1) = false := by rw [beq_eq_false_iff_ne]; omega
                have q2 : ((k : Int) == (TA.length : Int) + (TB.length : Int) - 1) = false := by rw [beq_eq_false_iff_ne]; omega
                have HI0 := Lib.hid (show decide (s'.head = 0) = false from decide_eq_false (by omega))
                have HG3 := Lib.hid hg3
                clear hd hxx hnn hg3
                go_wp2_with (first | (go_at_call 19; refine Rets.use (putW_c HMs.out.is HMs.out.good (by omega) b ⟨xb1, by omega⟩) ?_; rw [HPut.out]; rintro v11 w11 ⟨rfl, h11, hk11⟩; have z11 := hk11.size; have H11 := Lib.hid h11; have HK11 := Lib.hid hk11; clear h11 hk11) | (go_at_call 21; first | (refine Rets.use (idleW_is (b := true) ⟨_, _, HNi.out, rfl⟩) ?_; rintro _ _ ⟨rfl, rfl⟩) | (refine Rets.use (idleW_is (b := false) ⟨_, _, H11.out, HI0.out⟩) ?_; rintro _ _ ⟨rfl, rfl⟩)) | ((with_reducible refine at_ 92 rfl ?_); go_must (refine step_load rfl _ _ rfl W.heap.size 0 (reqC x (.slice A2 x.body.length c2)) _ _ (0, 0) _ rfl (HK11.out.heap HBx.out (fun h => by rcases h with h | h <;> omega)) rfl Try.underlying26 rfl (info_reqC _ _) ?_)) | ((with_reducible refine at_ 14 rfl ?_); go_must (refine step_alloc rfl _ rfl _ zq row_req rfl ?_); intro w12 hb12 hk12 hs12) | ((with_reducible refine at_store 26 (.tmp 14) (.tmp 92) rfl ?_); go_must (refine step_store rfl _ _ _ rfl w11.heap.size 0 (reqC x (.slice A2 x.body.length c2)) _ _ rfl rfl hb12 (by simp [zq, reqC]) (info_reqC _ _) (by simp [reqC, Value.oneCell']) ?_); intro w13 hb13 hk13 hs13; rw [put_whole (by rfl)] at hb13; have HK13 := Lib.hid (fresh_set (Keeps.refl _ w11) hk12 hk13); have HKm := HK13))
                go_roundw
                case rel => exact ⟨k + 1, m + 1, s', by omega, by go_num, Lib.hid (by omega), Lib.hid (.inl ⟨by omega, ⟨H11.out.mono (fun q h => h.elim id (fun h => .inr (by omega))), HG2.out, hb3, hw3, fun _ => hh2, HG3.out⟩⟩), Lib.hid (HKr.out.trans HK11.out (fun _ _ h => h))⟩
                case measure => simp [intOf]; omega
            · rw [List.getElem_append_right hka] at hbyte
              have hkj : k - TA.length < TB.length := by omega
              have hxb := HTb.out _ (List.getElem_mem hkj)
              obtain ⟨d, s', hput, hd, hg2, hh2, hxx, hnn⟩ := hM.next hkj HTb.out
              generalize TB[k - TA.length] = b at *
              obtain ⟨xb1, xb2⟩ := hxb
              have HPut := Lib.hid hput
              have HMs := Lib.hid hM
              have HG2 := Lib.hid hg2
              clear hput hM hg2 HM
              have hzg := HMs.out.is.zone
              have hgl := HMs.out.is.lt
              by_cases hlast : k + 1 = TA.length + TB.length
              · obtain ⟨hX, hW⟩ := hxx (by omega)
                have hd' : d = true := by rw [hd]; exact decide_eq_true (by omega)
                subst hd'
                have q1 : ((k : Int) == (TA.length : Int) - 1) = false := by rw [beq_eq_false_iff_ne]; omega
                have q2 : ((k : Int) == (TA.length : Int) + (TB.length : Int) - 1) = true := by rw [beq_iff_eq]; omega
                have HI0 := Lib.hid (show decide (s'.head = 0) = false from decide_eq_false (by omega))
                have HSX := Lib.hid hX
                clear hd hxx hnn hX
                go_wp2_with (first
                  | (first | (go_at_call 19; refine Rets.use (putW_c HMs.out.is HMs.out.good (by omega) b ⟨xb1, by omega⟩) ?_; rw [HPut.out]; rintro v11 w11 ⟨rfl, h11, hk11⟩; have z11 := hk11.size; have H11 := Lib.hid h11; have HK11 := Lib.hid hk11; clear h11 hk11) | (go_at_call 21; first | (refine Rets.use (idleW_is (b := true) ⟨_, _, HNi.out, rfl⟩) ?_; rintro _ _ ⟨rfl, rfl⟩) | (refine Rets.use (idleW_is (b := false) ⟨_, _, H11.out, HI0.out⟩) ?_; rintro _ _ ⟨rfl, rfl⟩)) | ((with_reducible refine at_ 92 rfl ?_); go_must (refine step_load rfl _ _ rfl W.heap.size 0 (reqC x (.slice A2 x.body.length c2)) _ _ (0, 0) _ rfl (HK11.out.heap HBx.out (fun h => by rcases h with h | h <;> omega)) rfl Try.underlying26 rfl (info_reqC _ _) ?_)) | ((with_reducible refine at_ 14 rfl ?_); go_must (refine step_alloc rfl _ rfl _ zq row_req rfl ?_); intro w12 hb12 hk12 hs12) | ((with_reducible refine at_store 26 (.tmp 14) (.tmp 92) rfl ?_); go_must (refine step_store rfl _ _ _ rfl w11.heap.size 0 (reqC x (.slice A2 x.body.length c2)) _ _ rfl rfl hb12 (by simp [zq, reqC]) (info_reqC _ _) (by simp [reqC, Value.oneCell']) ?_); intro w13 hb13 hk13 hs13; rw [put_whole (by rfl)] at hb13; have HK13 := Lib.hid (fresh_set (Keeps.refl _ w11) hk12 hk13); have HKm := HK13))
                  | ((with_reducible refine at_ 98 rfl ?_); go_must (refine step_load rfl _ _ rfl (W.heap.size + 1) 0 (reqC y (.slice A3 y.body.length c3)) _ _ (0, 0) _ rfl (HK13.out.heap (HK11.out.heap HBy.out (fun h => by rcases h with h | h <;> omega)) (fun h => h)) rfl Try.underlying26 rfl (info_reqC _ _) ?_))
                  | ((with_reducible refine at_store 26 (.tmp 14) (.tmp 98) rfl ?_); go_must (refine step_store rfl _ _ _ rfl w11.heap.size 0 (reqC y (.slice A3 y.body.length c3)) _ _ rfl rfl hb13 (by simp [reqC]) (info_reqC _ _) (by simp [reqC, Value.oneCell']) ?_); intro w14 hb14 hk14 hs14; rw [put_whole (by rfl)] at hb14; have HK14 := Lib.hid ((HK13.out.mono (S' := fun k => w11.heap.size ≤ k) (fun _ _ h => h.elim)).trans (S' := fun k => w11.heap.size ≤ k) (hk14.mono (fun k _ h => Nat.le_of_eq h.symm)) (fun _ _ h => h)); have HKm := HK14)
                  | (first | (go_at_call 22; refine Rets.use (takeW_yes (H11.out.small.kept HKm.out (fun k h h' => by first | exact h' | (have := h.2; omega))) hW) ?_; rintro v16 w16 ⟨vb, hv, hO16, hW16, hk16⟩; rw [HSX.out] at hv hO16; subst hv; obtain ⟨A16, c16, rfl, _⟩ := hO16.slice; have HO16 := Lib.hid hO16; have HW16 := Lib.hid hW16; have HK16 := Lib.hid hk16; clear hO16 hW16 hk16) | ((with_reducible refine at_ 15 rfl ?_); go_must (refine step_alloc rfl _ rfl _ zq row_req rfl ?_); intro w17 hb17 hk17 hs17) | ((with_reducible refine at_store 26 (.tmp 15) (.tmp 102) rfl ?_); go_must (refine step_store rfl _ _ _ rfl w16.heap.size 0 (reqC y (.slice A16 y.body.length c16)) _ _ rfl rfl hb17 (by simp [zq, reqC]) (info_reqC _ _) (by simp [reqC, Value.oneCell']) ?_); intro w18 hb18 hk18 hs18; rw [put_whole (by rfl)] at hb18; have HK18 := Lib.hid (fresh_set (Keeps.refl _ w16) hk17 hk18)) | ((with_reducible refine at_ 107 rfl ?_); go_must (refine step_load rfl _ _ rfl w16.heap.size 0 (reqC y (.slice A16 y.body.length c16)) _ _ (0, 0) _ rfl hb18 rfl Try.underlying26 rfl (info_reqC _ _) ?_)) | ((with_reducible refine at_ 108 rfl ?_); go_must (refine step_load rfl _ _ rfl w11.heap.size 0 (reqC y (.slice A3 y.body.length c3)) _ _ (0, 0) _ rfl (HK18.out.heap (HK16.out.heap hb14 (fun h => by have h2 : w11.heap.size = g := h; omega)) (fun h => h)) rfl Try.underlying26 rfl (info_reqC _ _) ?_)) | (go_at_call 15; refine Rets.use (same13_self y HY.out (.slice A16 y.body.length c16) (.slice A3 y.body.length c3) (HO16.out.kept HK18.out (fun _ _ h => h)).rd ((((HRy.out.kept HK11.out (fun q h h' => by rcases h' with h' | h' <;> omega)).kept HKm.out (fun q h h' => by first | exact h' | omega)).kept HK16.out (fun q h h' => by rcases hzg with h2 | h2 <;> omega)).kept HK18.out (fun _ _ h => h)) (by omega)) ?_; rintro _ w19 ⟨rfl, hk19⟩; have HNi := Lib.hid (HW16.out.kept (HK18.out.trans hk19 (fun _ _ h => h)) (fun _ _ h => h)); have HNw := Lib.hid (HNi.out.mono (S' := Zone w7.heap.size w8.heap.size w10.heap.size) (fun q h => by subst h; exact hzg)); have HKn := Lib.hid (((((HKr.out.trans HK11.out (fun _ _ h => h)).trans HKm.out (fun q _ h => by first | exact h.elim | exact .inr (by omega))).trans HK16.out (fun q _ h => by subst h; exact hzg)).trans HK18.out (fun _ _ h => h.elim)).trans hk19 (fun _ _ h => h.elim)))))
                go_roundw
                case rel => exact ⟨k + 1, 0, Wire.new, by omega, by go_num, Lib.hid (Nat.zero_le _), Lib.hid (.inr (.inr ⟨by omega, HNw.out⟩)), HKn⟩
                case measure => simp [intOf]; omega
              · have hn3 := hnn (by omega)
                obtain ⟨hb3, hw3, hg3⟩ := hn3
                have hd' : d = false := by rw [hd]; exact decide_eq_false (by omega)
                subst hd'
                have q1 : ((k : Int) == (TA.length : Int) - 1) = false := by rw [beq_eq_false_iff_ne]; omega
                have q2 : ((k : Int) == (TA.length : Int) + (TB.length : Int) - 1) = false := by rw [beq_eq_false_iff_ne]; omega
                have HI0 := Lib.hid (show decide (s'.head = 0) = false from decide_eq_false (by omega))
                have HG3 := Lib.hid hg3
                clear hd hxx hnn hg3
                go_wp2_with (first | (go_at_call 19; refine Rets.use (putW_c HMs.out.is HMs.out.good (by omega) b ⟨xb1, by omega⟩) ?_; rw [HPut.out]; rintro v11 w11 ⟨rfl, h11, hk11⟩; have z11 := hk11.size; have H11 := Lib.hid h11; have HK11 := Lib.hid hk11; clear h11 hk11) | (go_at_call 21; first | (refine Rets.use (idleW_is (b := true) ⟨_, _, HNi.out, rfl⟩) ?_; rintro _ _ ⟨rfl, rfl⟩) | (refine Rets.use (idleW_is (b := false) ⟨_, _, H11.out, HI0.out⟩) ?_; rintro _ _ ⟨rfl, rfl⟩)) | ((with_reducible refine at_ 92 rfl ?_); go_must (refine step_load rfl _ _ rfl W.heap.size 0 (reqC x (.slice A2 x.body.length c2)) _ _ (0, 0) _ rfl (HK11.out.heap HBx.out (fun h => by rcases h with h | h <;> omega)) rfl Try.underlying26 rfl (info_reqC _ _) ?_)) | ((with_reducible refine at_ 14 rfl ?_); go_must (refine step_alloc rfl _ rfl _ zq row_req rfl ?_); intro w12 hb12 hk12 hs12) | ((with_reducible refine at_store 26 (.tmp 14) (.tmp 92) rfl ?_); go_must (refine step_store rfl _ _ _ rfl w11.heap.size 0 (reqC x (.slice A2 x.body.length c2)) _ _ rfl rfl hb12 (by simp [zq, reqC]) (info_reqC _ _) (by simp [reqC, Value.oneCell']) ?_); intro w13 hb13 hk13 hs13; rw [put_whole (by rfl)] at hb13; have HK13 := Lib.hid (fresh_set (Keeps.refl _ w11) hk12 hk13); have HKm := HK13))
                go_roundw
                case rel => exact ⟨k + 1, m + 1, s', by omega, by go_num, Lib.hid (by omega), Lib.hid (.inr (.inl ⟨by omega, by omega, ⟨H11.out.mono (fun q h => h.elim id (fun h => .inr (by omega))), HG2.out, hb3, hw3, fun _ => hh2, by rw [show k + 1 - TA.length = k - TA.length + 1 by omega]; exact HG3.out⟩⟩)), Lib.hid (HKr.out.trans HK11.out (fun _ _ h => h))⟩
                case measure => simp [intOf]; omega
            · omega
          · rcases HM.out with ⟨hka, _⟩ | ⟨_, hkb, _⟩ | ⟨hka, hW⟩
            · omega
            · omega
            · have HWe := Lib.hid hW
              clear hW HM
              have hge : ¬ (k : Int) < (TA.length : Int) + (TB.length : Int) := by omega
              go_wp2_with (first
                | (go_at_call 22; refine Rets.use (takeW_no HWe.out rfl) ?_; rintro _ w11 ⟨rfl, hk11⟩)
                | ((with_reducible refine at_ 17 rfl ?_); go_must (refine step_alloc rfl _ rfl _ zq row_req rfl ?_); intro w12 hb12 hk12 hs12)
                | ((with_reducible refine at_store 26 (.tmp 17) (.tmp 120) rfl ?_); go_must (refine step_store rfl _ _ _ rfl w11.heap.size 0 (reqC Wire.zeroR (.slice none 0 0)) _ _ rfl rfl hb12 (by simp [zq, reqC]) (info_reqC _ _) (by simp [reqC, Value.oneCell']) ?_); intro w13 hb13 hk13 hs13)
                | (go_at_call 17; refine Rets.use (lives13_c _) ?_; rintro v14 w14 ⟨rfl, hk14⟩))
              go_ret
              have hkz := (((HKf.out.trans HKr.out (fun k _ h => by rcases h with h | h <;> omega)).trans hk11 (fun _ _ h => h.elim)).trans (fresh_set (Keeps.refl _ w11) hk12 hk13) (fun _ _ h => h.elim)).trans hk14 (fun _ _ h => h.elim)
              exact ⟨rfl, hkz.mono (fun k hk h => by omega)⟩
theorem next_walk (W : World) (cs0 : Array Value) (x0 : ByteArray × ByteArray × ByteArray × List Int × Unit) (H0 : Has W (.st (.fld .str (.fld .str (.fld .str (.fld (.slice (.int .u8)) .fin))))) cs0.toList x0)
    (cs1 : Array Value) (x1 : ByteArray × ByteArray × ByteArray × List Int × Unit) (H1 : Has W (.st (.fld .str (.fld .str (.fld .str (.fld (.slice (.int .u8)) .fin))))) cs1.toList x1) :
    Calls Try.prog 9 #[.agg cs0, .agg cs1] W (Rets (Yes W)) := by
  obtain ⟨r, v, e, hr, h⟩ := KReq_of H0
  obtain ⟨r', v', e', hr', h'⟩ := KReq_of H1
  have e2 : cs0 = (reqC r v).toArray := by rw [← e]
  have e3 : cs1 = (reqC r' v').toArray := by rw [← e']
  subst e2 e3
  exact next_in W r r' hr hr' v v' h h'
end Go.Proofs.Ytibegbmehpggbaa
