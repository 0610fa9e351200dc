/-
  The walks of package wire: behind the head, and a byte of the body.
-/
import Derived.Test.YtibegbmehpggbaaDoorWireF
namespace Go.Proofs.YtibegbmehpggbaaDoor
open Go.RowKit Go.Canon Go.Mem
set_option linter.unusedVariables false
set_option linter.unusedSimpArgs false
theorem info_boolW : (Tryd.prog.info? 4).map (·.size) = some 1 := by kernel_rfl
theorem info_pcW : (Tryd.prog.info? 62).map (·.size) = some 1 := by kernel_rfl
theorem ChIs.mono {w : World} {R S' : Nat → Prop} {vc : Value} {o : Option Chunk.Rd} (h : ChIs w R vc o) (hs : ∀ k, k < w.heap.size → R k → S' k) : ChIs w S' vc o := by
  cases o with
  | none => exact h
  | some c => obtain ⟨y, e, h⟩ := h; exact ⟨y, e, h.mono hs⟩
section
variable {w w' : World} {S : Nat → Prop} {g : Nat} {s s' : Wire.S} {vl vb vc : Value} {R1 R2 R3 : Nat → Prop}
theorem WPart.small (h : WPart w S g vl vb vc R1 R2 R3 s) : WPart w (fun k => S k ∧ k < w.heap.size) g vl vb vc (fun k => R1 k ∧ k < w.heap.size) (fun k => R2 k ∧ k < w.heap.size) (fun k => R3 k ∧ k < w.heap.size) s :=
  ⟨h.blk, ⟨h.own, lt_of h.blk⟩, h.ol.mono (fun k hk h => ⟨h, hk⟩), h.ob.mono (fun k hk h => ⟨h, hk⟩), h.oc.mono (fun k hk h => ⟨h, hk⟩), fun k hr => ⟨⟨(h.d1 k hr.1).1, hr.2⟩, (h.d1 k hr.1).2⟩, fun k hr => ⟨⟨(h.d2 k hr.1).1, hr.2⟩, (h.d2 k hr.1).2⟩, fun k hr => ⟨⟨(h.d3 k hr.1).1, hr.2⟩, (h.d3 k hr.1).2⟩, fun k hr hq => h.d12 k hr.1 hq.1, fun k hr hq => h.d13 k hr.1 hq.1, fun k hr hq => h.d23 k hr.1 hq.1⟩
theorem WIs.parts2 (h : WIs w S g s) : ∃ vl vb vc R1 R2 R3, WPart w (fun k => S k ∧ k < w.heap.size) g vl vb vc R1 R2 R3 s := by
  obtain ⟨vl, vb, vc, R1, R2, R3, h⟩ := h.parts
  exact ⟨vl, vb, vc, _, _, _, h.small⟩
/-- The answer of a step, out of its parts. -/
theorem wstep {ans : Value} (hb : w'.heap[g]? = some (.cells (wcells vl vb vc s').toArray 64 (0, 0))) (hg : S g) (h1 : OwnRow w' R1 5 1 vl s'.line.length (Disk.bytes8 s'.line)) (h2 : OwnRow w' R2 5 1 vb s'.x.body.length (Disk.bytes8 s'.x.body)) (h3 : ChIs w' R3 vc s'.ch)
    (d1 : ∀ k, R1 k → (S k ∨ w.heap.size ≤ k) ∧ k ≠ g) (d2 : ∀ k, R2 k → (S k ∨ w.heap.size ≤ k) ∧ k ≠ g) (d3 : ∀ k, R3 k → (S k ∨ w.heap.size ≤ k) ∧ k ≠ g) (d12 : ∀ k, R1 k → ¬ R2 k) (d13 : ∀ k, R1 k → ¬ R3 k) (d23 : ∀ k, R2 k → ¬ R3 k) (hk : Keeps S w w') : WStep w S g ans s' ans w' :=
  ⟨rfl, ⟨vl, vb, vc, R1, R2, R3, hb, .inl hg, h1, h2, h3, d1, d2, d3, d12, d13, d23⟩, hk⟩
end
section
variable {w : World} {S : Nat → Prop} {g : Nat} {s : Wire.S}
set_option maxHeartbeats 3200000 in
theorem endsW_c (h : WIs w S g s) : Calls Tryd.prog 34 #[.pointer (some ⟨g, 0, none⟩)] w (Rets (WStep w S g (.int .i64 0) (Wire.ends s))) := by
  obtain ⟨vl, vb, vc, R1, R2, R3, hp⟩ := h.parts2
  have HP := Lib.hid hp
  have HB := Lib.hid hp.blk
  clear hp h
  cases hse : s.se with
  | true =>
    have HE := Lib.hid (show Wire.ends s = { s with inB := true, ch := some ⟨2048, 0, 0, []⟩ } by unfold Wire.ends; rw [if_pos hse])
    go_enter Tryd.func34, Tryd.ntmps34
    go_wp2_with (first
      | ((with_reducible refine at_store 4 (.tmp 5) (.const (.bool true)) rfl ?_); go_must (refine step_store1 rfl _ _ _ rfl g 15 (.bool true) _ _ rfl rfl rfl HB.out (by simp [wcells]) info_boolW ?_); intro w1 hb1 hk1 hs1; have c1 : w1.cell? ⟨g, 12, none⟩ = some (.bool s.se) := (cell_of_row w1 g 12 _ _ _ hb1).trans rfl; rw [hse] at c1; have HB1 := Lib.hid hb1; clear hb1)
      | (go_at_call 40; refine Rets.use (new12_c _ 2048 (by decide) (by decide)) ?_; rintro v2 w2 ⟨hk2, y, rfl, hr2⟩; have HB2 := Lib.hid (hk2.heap HB1.out (fun h => h)); have HR2 := Lib.hid hr2; clear hr2)
      | ((with_reducible refine at_store 62 (.tmp 17) (.tmp 14) rfl ?_); go_must (refine step_store1 rfl _ _ _ rfl g 14 (.pointer (some ⟨y, 0, none⟩)) _ _ rfl rfl rfl HB2.out (by simp [wcells]) info_pcW ?_); intro w3 hb3 hk3 hs3))
    go_ret
    rw [HE.out]
    have hw1 : w1.heap.size = w.heap.size := hs1
    have hkg : Keeps (fun k => k = g) w w3 := (hk1.trans (hk2.mono (fun _ _ h => h.elim)) (fun _ _ h => h)).trans hk3 (fun _ _ h => h)
    have hq := HP.out
    have hgl := hq.own.2
    refine wstep (vl := vl) (vb := vb) (vc := .pointer (some ⟨y, 0, none⟩)) (R1 := R1) (R2 := R2) (R3 := fun k => w.heap.size ≤ k) ?_ hq.own.1 (hq.ol.kept hkg (fun k h => (hq.d1 k h).2)) (hq.ob.kept hkg (fun k h => (hq.d2 k h).2)) ⟨y, rfl, (HR2.out.mono (fun k _ h => by rw [hw1] at h; exact h)).kept hk3 (fun k h => by omega)⟩
      (fun k h => ⟨.inl (hq.d1 k h).1.1, (hq.d1 k h).2⟩) (fun k h => ⟨.inl (hq.d2 k h).1.1, (hq.d2 k h).2⟩) (fun k h => ⟨.inr h, by omega⟩) hq.d12 (fun k h h' => by have := (hq.d1 k h).1.2; omega) (fun k h h' => by have := (hq.d2 k h).1.2; omega) (hkg.mono (fun k _ e => by subst e; exact hq.own.1))
    exact hb3
  | false =>
    have HE := Lib.hid (show Wire.ends s = { s with inB := true, whole := decide (s.left = 0) } by unfold Wire.ends; rw [if_neg (by rw [hse]; simp)])
    have hd : (s.left == 0) = decide (s.left = 0) := by
      by_cases h : s.left = 0
      · rw [h]; rfl
      · rw [beq_eq_false_iff_ne.2 h, decide_eq_false h]
    have HD := Lib.hid hd
    clear hd
    go_enter Tryd.func34, Tryd.ntmps34
    go_wp2_with (first
      | ((with_reducible refine at_store 4 (.tmp 5) (.const (.bool true)) rfl ?_); go_must (refine step_store1 rfl _ _ _ rfl g 15 (.bool true) _ _ rfl rfl rfl HB.out (by simp [wcells]) info_boolW ?_); intro w1 hb1 hk1 hs1; have c1 : w1.cell? ⟨g, 12, none⟩ = some (.bool s.se) := (cell_of_row w1 g 12 _ _ _ hb1).trans rfl; rw [hse] at c1; have c2 : w1.cell? ⟨g, 13, none⟩ = some (.int .i64 s.left) := (cell_of_row w1 g 13 _ _ _ hb1).trans rfl; have HB1 := Lib.hid hb1; clear hb1)
      | ((with_reducible refine at_store 4 (.tmp 25) (.tmp 23) rfl ?_); go_must (refine step_store1 rfl _ _ _ rfl g 2 (.bool (s.left == 0)) _ _ rfl rfl rfl HB1.out (by simp [wcells]) info_boolW ?_); intro w3 hb3 hk3 hs3))
    go_ret
    rw [HE.out]
    rw [HD.out] at hb3
    have hkg : Keeps (fun k => k = g) w w3 := hk1.trans hk3 (fun _ _ h => h)
    have hq := HP.out
    exact ((hq.stay (s' := { s with inB := true, whole := decide (s.left = 0) }) hkg hb3 rfl rfl rfl).mono (S' := S) (fun k h => h.1)).step (hkg.mono (fun k _ e => by subst e; exact hq.own.1))
set_option maxHeartbeats 3200000 in
theorem bodyW_len (h : WIs w S g s) (hc : s.ch = none) (hl : s.x.body.length ≤ 1000000) (h1 : 1 ≤ s.left) (h2 : s.left ≤ 2048) (x : Int) (h0 : 0 ≤ x ∧ x ≤ 255) : Calls Tryd.prog 32 #[.pointer (some ⟨g, 0, none⟩), .int .u8 x] w (Rets (WStep w S g (.int .i64 (Wire.body s x).1) (Wire.body s x).2)) := by
  obtain ⟨vl, vb, vc, R1, R2, R3, hp⟩ := h.parts2
  obtain ⟨A, c, rfl, _⟩ := hp.ob.slice
  have hoc := hp.oc
  rw [hc] at hoc
  obtain rfl : vc = .pointer none := hoc
  have HP := Lib.hid hp
  have HB := Lib.hid hp.blk
  have HC := Lib.hid hc
  have c14 : w.cell? ⟨g, 14, none⟩ = some (.pointer none) := (hp.cell 14).trans rfl
  have c9 : w.cell? ⟨g, 9, none⟩ = some (.slice A s.x.body.length c) := (hp.cell 9).trans rfl
  have HE := Lib.hid (Wire.body_len x hc)
  have hd : (s.left - 1 == 0) = decide (s.left - 1 = 0) := by
    by_cases h : s.left - 1 = 0
    · rw [h]; rfl
    · rw [beq_eq_false_iff_ne.2 h, decide_eq_false h]
  have HD := Lib.hid hd
  clear hd hp h hc
  go_enter Tryd.func32, Tryd.ntmps32
  go_wp2_with (first
    | ((with_reducible refine at_ 19 rfl ?_); go_must (refine step_lit rfl 22 _ 1 rfl [.int .u8 x] rfl rfl (by decide) 5 _ 1 Tryd.underlying22 row2_byte (by decide) (by decide) (by intro v hv; rw [List.mem_singleton] at hv; subst hv; rfl) ?_); intro w4 hb4 hk4 hs4)
    | ((with_reducible refine at_ 20 rfl ?_); go_must (refine step_append_rd (ok2 := fun k => w.heap.size ≤ k) rfl _ _ _ rfl 5 _ 1 1 Tryd.underlying22 row_byte rfl (by decide) (.slice A s.x.body.length c) s.x.body.length (Disk.bytes8 s.x.body) rfl (own_self (HP.out.ob.kept hk4 (fun _ _ h => h))) _ 1 (Disk.bytes8 [x]) rfl (lit8 hb4 (Nat.le_refl _)) rfl (Disk.bytes8_one [x]) (by simp only [maxLen]; omega) (by omega) ?_); intro v5 w5 hO5 hk5; obtain ⟨A5, c5, rfl, _⟩ := hO5.slice; have HO5 := Lib.hid hO5; have hg5 : ¬ Value.ownBlock (.slice A s.x.body.length c) = some g := (fun h => (HP.out.d2 g (HP.out.ob.2 g h)).2 rfl); have HB5 := Lib.hid (hk5.heap (hk4.heap HB.out (fun h => h)) hg5); have hk45 : Keeps (fun k => Value.ownBlock (.slice A s.x.body.length c) = some k) w w5 := (hk4.mono (fun _ _ h => h.elim)).trans hk5 (fun k _ h => h); clear hO5)
    | ((with_reducible refine at_store 22 (.tmp 23) (.tmp 20) rfl ?_); go_must (refine step_store1 rfl _ _ _ rfl g 9 (.slice A5 (s.x.body.length + 1) c5) _ _ rfl rfl rfl HB5.out (by simp [wcells]) info_bytes12 ?_); intro w6 hb6 hk6 hs6; have c6 : w6.cell? ⟨g, 13, none⟩ = some (.int .i64 s.left) := (cell_of_row w6 g 13 _ _ _ hb6).trans rfl; have HB6 := Lib.hid hb6; clear hb6)
    | ((with_reducible refine at_store 3 (.tmp 30) (.tmp 28) rfl ?_); go_must (refine step_store1 rfl _ _ _ rfl g 13 (.int .i64 (s.left - 1)) _ _ rfl rfl rfl HB6.out (by simp [wcells]) info_int ?_); intro w7 hb7 hk7 hs7; have c7 : w7.cell? ⟨g, 13, none⟩ = some (.int .i64 (s.left - 1)) := (cell_of_row w7 g 13 _ _ _ hb7).trans rfl; have HB7 := Lib.hid hb7; clear hb7)
    | ((with_reducible refine at_store 4 (.tmp 38) (.tmp 36) rfl ?_); go_must (refine step_store1 rfl _ _ _ rfl g 2 (.bool (s.left - 1 == 0)) _ _ rfl rfl rfl HB7.out (by simp [wcells]) info_boolW ?_); intro w8 hb8 hk8 hs8))
  go_ret
  rw [HE.out]
  rw [HD.out] at hb8
  have hkg : Keeps (fun k => k = g) w5 w8 := (hk6.trans hk7 (fun _ _ h => h)).trans hk8 (fun _ _ h => h)
  have hq := HP.out
  have hgl := hq.own.2
  have hob : ∀ k, Value.ownBlock (.slice A s.x.body.length c) = some k → R2 k := fun k h => hq.ob.2 k h
  have hz := hk45.size
  refine wstep (vl := vl) (vb := .slice A5 (s.x.body.length + 1) c5) (vc := .pointer none) (R1 := R1) (R2 := fun k => R2 k ∨ w.heap.size ≤ k) (R3 := fun _ => False) ?_ hq.own.1 ((hq.ol.kept hk45 (fun k h h' => hq.d12 k h (hob k h'))).kept hkg (fun k h => (hq.d1 k h).2)) ?_ (by show ChIs _ _ _ s.ch; rw [HC.out]; rfl)
    (fun k h => ⟨.inl (hq.d1 k h).1.1, (hq.d1 k h).2⟩) (fun k h => h.elim (fun h => ⟨.inl (hq.d2 k h).1.1, (hq.d2 k h).2⟩) (fun h => ⟨.inr h, by omega⟩)) (fun k h => h.elim) (fun k h h' => h'.elim (hq.d12 k h) (fun h' => by have := (hq.d1 k h).1.2; omega)) (fun k h h' => h') (fun k h h' => h') ((hk45.mono (fun k _ h => (hq.d2 k (hob k h)).1.1)).trans (hkg.mono (fun k _ e => by subst e; exact hq.own.1)) (fun _ _ h => h))
  · exact hb8
  · show OwnRow w8 _ _ 1 _ (s.x.body ++ [x]).length (Disk.bytes8 (s.x.body ++ [x]))
    rw [List.length_append, Disk.bytes8_append]
    exact (HO5.out.mono (ok' := fun k => R2 k ∨ w.heap.size ≤ k) (fun k _ h => h.elim (fun h => .inl (hob k h)) (fun h => .inr (Nat.le_trans hk4.size h)))).kept hkg (fun k h => h.elim (fun h => (hq.d2 k h).2) (fun h => by omega))
set_option maxHeartbeats 3200000 in
theorem bodyW_ch (h : WIs w S g s) {c : Chunk.Rd} (hc : s.ch = some c) {n : Nat} (hm : Mild c n) (hn : n ≤ 1000000) (x : Int) (h0 : 0 ≤ x ∧ x ≤ 255) : Calls Tryd.prog 32 #[.pointer (some ⟨g, 0, none⟩), .int .u8 x] w (Rets (WStep w S g (.int .i64 (Wire.body s x).1) (Wire.body s x).2)) := by
  obtain ⟨vl, vb, vc, R1, R2, R3, hp⟩ := h.parts2
  have hoc := hp.oc
  rw [hc] at hoc
  obtain ⟨y, rfl, hr⟩ := hoc
  have HR := Lib.hid hr
  have HP := Lib.hid hp
  have HB := Lib.hid hp.blk
  have HM := Lib.hid hm
  have HM2 := Lib.hid (hm.put x)
  have c14 : w.cell? ⟨g, 14, none⟩ = some (.pointer (some ⟨y, 0, none⟩)) := (hp.cell 14).trans rfl
  have HE := Lib.hid (Wire.body_ch x hc)
  have hgR : ¬ R3 g := fun h => (hp.d3 g h).2 rfl
  clear hp h hc hr hm
  obtain ⟨p, hpp⟩ : ∃ p, Chunk.put c x = p := ⟨_, rfl⟩
  have HPP := Lib.hid hpp
  rw [hpp] at HE HM2
  clear hpp
  obtain ⟨⟨d, e⟩, c2⟩ := p
  cases d with
  | false =>
    go_enter Tryd.func32, Tryd.ntmps32
    go_wp2_with (go_at_call 36; refine Rets.use (put12_c HR.out HM.out hn x h0) ?_; rintro v1 w1 ⟨rfl, hr1, hk1⟩; rw [HPP.out] at hr1 ⊢; have HR1 := Lib.hid hr1; clear hr1; (try simp only at *))
    go_ret
    rw [HE.out]
    have hq := HP.out
    have hgl := hq.own.2
    refine wstep (vl := vl) (vb := vb) (vc := .pointer (some ⟨y, 0, none⟩)) (R1 := R1) (R2 := R2) (R3 := fun k => R3 k ∨ w.heap.size ≤ k) ?_ hq.own.1 (hq.ol.kept hk1 (fun k h h' => hq.d13 k h h')) (hq.ob.kept hk1 (fun k h h' => hq.d23 k h h')) ⟨y, rfl, HR1.out⟩
      (fun k h => ⟨.inl (hq.d1 k h).1.1, (hq.d1 k h).2⟩) (fun k h => ⟨.inl (hq.d2 k h).1.1, (hq.d2 k h).2⟩) (fun k h => h.elim (fun h => ⟨.inl (hq.d3 k h).1.1, (hq.d3 k h).2⟩) (fun h => ⟨.inr h, by omega⟩)) hq.d12 (fun k h h' => h'.elim (hq.d13 k h) (fun h' => by have := (hq.d1 k h).1.2; omega)) (fun k h h' => h'.elim (hq.d23 k h) (fun h' => by have := (hq.d2 k h).1.2; omega)) (hk1.mono (fun k _ h => (hq.d3 k h).1.1))
    exact hk1.heap hq.blk hgR
  | true =>
    have hl2 := HM2.out.len
    go_enter Tryd.func32, Tryd.ntmps32
    go_wp2_with (first
      | (go_at_call 36; refine Rets.use (put12_c HR.out HM.out hn x h0) ?_; rintro v1 w1 ⟨rfl, hr1, hk1⟩; rw [HPP.out] at hr1 ⊢; have HR1 := Lib.hid hr1; clear hr1; have c14 := hk1.cell c14 hgR; have HB1 := Lib.hid (hk1.heap HB.out hgR); (try simp only at *))
      | (go_at_call 37; refine Rets.use (body12_c HR1.out (Nat.le_trans hl2 (by omega))) ?_; rintro v2 w2 ⟨hO2, hk2⟩; have HO2 := Lib.hid hO2; obtain ⟨A2, cc2, rfl, _⟩ := hO2.slice; have HB2 := Lib.hid (hk2.heap HB1.out (fun h => h)); clear hO2)
      | ((with_reducible refine at_store 22 (.tmp 58) (.tmp 55) rfl ?_); go_must (refine step_store1 rfl _ _ _ rfl g 9 (.slice A2 c2.b.length cc2) _ _ rfl rfl rfl HB2.out (by simp [wcells]) info_bytes12 ?_); intro w3 hb3 hk3 hs3; have HB3 := Lib.hid hb3; clear hb3)
      | ((with_reducible refine at_store 4 (.tmp 60) (.const (.bool true)) rfl ?_); go_must (refine step_store1 rfl _ _ _ rfl g 2 (.bool true) _ _ rfl rfl rfl HB3.out (by simp [wcells]) info_boolW ?_); intro w4 hb4 hk4 hs4))
    go_ret
    rw [HE.out]
    have hq := HP.out
    have hgl := hq.own.2
    have hz1 := hk1.size
    have hz2 := hk2.size
    have hkg : Keeps (fun k => k = g) w2 w4 := hk3.trans hk4 (fun _ _ h => h)
    have hk12 : Keeps R3 w w2 := hk1.trans hk2 (fun _ _ h => h.elim)
    refine wstep (vl := vl) (vb := .slice A2 c2.b.length cc2) (vc := .pointer (some ⟨y, 0, none⟩)) (R1 := R1) (R2 := fun k => w1.heap.size ≤ k) (R3 := fun k => (R3 k ∨ w.heap.size ≤ k) ∧ k < w1.heap.size) ?_ hq.own.1 ((hq.ol.kept hk12 (fun k h h' => hq.d13 k h h')).kept hkg (fun k h => (hq.d1 k h).2)) (HO2.out.kept hkg (fun k h => by omega)) ⟨y, rfl, ((HR1.out.mono (S' := fun k => (R3 k ∨ w.heap.size ≤ k) ∧ k < w1.heap.size) (fun k hk h => ⟨h, hk⟩)).kept hk2 (fun _ _ h => h)).kept hkg (fun k h => h.1.elim (fun h => (hq.d3 k h).2) (fun h => by omega))⟩
      (fun k h => ⟨.inl (hq.d1 k h).1.1, (hq.d1 k h).2⟩) (fun k h => ⟨.inr (by omega), by omega⟩) (fun k h => h.1.elim (fun h => ⟨.inl (hq.d3 k h).1.1, (hq.d3 k h).2⟩) (fun h => ⟨.inr h, by omega⟩)) (fun k h h' => by have := (hq.d1 k h).1.2; omega) (fun k h h' => h'.1.elim (hq.d13 k h) (fun h' => by have := (hq.d1 k h).1.2; omega)) (fun k h h' => by omega) ((hk12.mono (fun k _ h => (hq.d3 k h).1.1)).trans (hkg.mono (fun k _ e => by subst e; exact hq.own.1)) (fun _ _ h => h))
    exact hb4
end
end Go.Proofs.YtibegbmehpggbaaDoor
