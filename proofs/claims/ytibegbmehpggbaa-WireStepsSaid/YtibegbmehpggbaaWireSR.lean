/-
  The document's reader of requests, byte by byte: Put.
-/
import Derived.Test.YtibegbmehpggbaaLWireReads
namespace Go.Proofs.Ytibegbmehpggbaa
open Go.RowKit Go.Canon Go.Mem
set_option linter.unusedVariables false
set_option linter.unusedSimpArgs false
/-- All bytes of the request that comes; what is there when it is whole. -/
structure DR where
  b : List Int
  bad : Bool
  done : Bool
  x : ReqP
def DR.new : DR := ⟨[], false, false, Wire.zeroR⟩
def DR.put (d : DR) (c : Int) : (Bool × Int) × DR :=
  if d.bad = true ∨ d.done = true then ((false, 20), d)
  else if (Wire.docWhole (d.b ++ [c])).2.2 = 0 then ((true, 0), { d with b := d.b ++ [c], done := true, x := (Wire.docWhole (d.b ++ [c])).1 })
  else if (Wire.docWhole (d.b ++ [c])).2.2 ≠ 3 then ((false, (Wire.docWhole (d.b ++ [c])).2.2), { d with b := d.b ++ [c], bad := true })
  else ((false, 0), { d with b := d.b ++ [c] })
def dcells (vb vx : Value) (d : DR) : List Value := [vb, .bool d.bad, .bool d.done, .string (str d.x.method), .string (str d.x.target), .string (str d.x.token), vx]
structure DPart (w : World) (S : Nat → Prop) (g : Nat) (vb vx : Value) (R1 R2 : Nat → Prop) (d : DR) : Prop where
  blk : w.heap[g]? = some (.cells (dcells vb vx d).toArray 44 (0, 0))
  own : S g
  ob : OwnRow w R1 5 1 vb d.b.length (Disk.bytes8 d.b)
  ox : OwnRow w R2 5 1 vx d.x.body.length (Disk.bytes8 d.x.body)
  d1 : ∀ k, R1 k → S k ∧ k ≠ g
  d2 : ∀ k, R2 k → S k ∧ k ≠ g
  d12 : ∀ k, R1 k → ¬ R2 k
def DIs (w : World) (S : Nat → Prop) (g : Nat) (d : DR) : Prop := ∃ vb vx R1 R2, DPart w S g vb vx R1 R2 d
section
variable {w w' : World} {S S' : Nat → Prop} {g : Nat} {d : DR}
theorem DPart.small {vb vx : Value} {R1 R2 : Nat → Prop} (h : DPart w S g vb vx R1 R2 d) : DPart w (fun k => S k ∧ k < w.heap.size) g vb vx (fun k => R1 k ∧ k < w.heap.size) (fun k => R2 k ∧ k < w.heap.size) d :=
  ⟨h.blk, ⟨h.own, lt_of h.blk⟩, h.ob.mono (fun k hk h => ⟨h, hk⟩), h.ox.mono (fun k hk h => ⟨h, hk⟩), fun k hr => ⟨⟨(h.d1 k hr.1).1, hr.2⟩, (h.d1 k hr.1).2⟩, fun k hr => ⟨⟨(h.d2 k hr.1).1, hr.2⟩, (h.d2 k hr.1).2⟩, fun k hr hq => h.d12 k hr.1 hq.1⟩
theorem DIs.parts2 (h : DIs w S g d) : ∃ vb vx R1 R2, DPart w (fun k => S k ∧ k < w.heap.size) g vb vx R1 R2 d := by
  obtain ⟨vb, vx, R1, R2, h⟩ := h
  exact ⟨vb, vx, _, _, h.small⟩
theorem DPart.kept {T : Nat → Prop} {vb vx : Value} {R1 R2 : Nat → Prop} (h : DPart w S g vb vx R1 R2 d) (hk : Keeps T w w') (hn : ∀ k, S k → ¬ T k) : DPart w' S g vb vx R1 R2 d :=
  ⟨hk.heap h.blk (hn g h.own), h.own, h.ob.kept hk (fun k hr => hn k (h.d1 k hr).1), h.ox.kept hk (fun k hr => hn k (h.d2 k hr).1), h.d1, h.d2, h.d12⟩
theorem DIs.kept {T : Nat → Prop} (h : DIs w S g d) (hk : Keeps T w w') (hn : ∀ k, S k → ¬ T k) : DIs w' S g d := by
  obtain ⟨vb, vx, R1, R2, h⟩ := h
  exact ⟨vb, vx, R1, R2, h.kept hk hn⟩
theorem DPart.mono {vb vx : Value} {R1 R2 : Nat → Prop} (h : DPart w S g vb vx R1 R2 d) (hs : ∀ k, S k → S' k) : DPart w S' g vb vx R1 R2 d :=
  ⟨h.blk, hs g h.own, h.ob, h.ox, fun k hr => ⟨hs k (h.d1 k hr).1, (h.d1 k hr).2⟩, fun k hr => ⟨hs k (h.d2 k hr).1, (h.d2 k hr).2⟩, h.d12⟩
theorem DIs.mono (h : DIs w S g d) (hs : ∀ k, S k → S' k) : DIs w S' g d := by
  obtain ⟨vb, vx, R1, R2, h⟩ := h
  exact ⟨vb, vx, R1, R2, h.mono hs⟩
/-- What a byte is answered. -/
def DStep (w : World) (S : Nat → Prop) (g : Nat) (p : (Bool × Int) × DR) : Value → World → Prop := fun v w' => v = .tuple #[.bool p.1.1, .int .i64 p.1.2] ∧ DIs w' (fun k => S k ∨ w.heap.size ≤ k) g p.2 ∧ Keeps S w w'
theorem rput_no (h : DIs w S g d) (hno : d.bad = true ∨ d.done = true) (x : Int) : Calls Try.prog 20 #[.pointer (some ⟨g, 0, none⟩), .int .u8 x] w (Rets (DStep w S g (d.put x))) := by
  have HD := Lib.hid h
  obtain ⟨vb, vx, R1, R2, hp⟩ := h
  have c1 : w.cell? ⟨g, 1, none⟩ = some (.bool d.bad) := (cell_of_row w g 1 _ _ _ hp.blk).trans rfl
  have c2 : w.cell? ⟨g, 2, none⟩ = some (.bool d.done) := (cell_of_row w g 2 _ _ _ hp.blk).trans rfl
  have HQ := Lib.hid (show d.put x = ((false, 20), d) by unfold DR.put; rw [if_pos hno])
  clear hp
  cases hb : d.bad with
  | true =>
    rw [hb] at c1
    clear hno
    go_enter Try.func20, Try.ntmps20
    go_wp2
    go_ret2
    rw [HQ.out]
    exact ⟨rfl, HD.out.mono (fun k h => .inl h), Keeps.refl _ _⟩
  | false =>
    have hw := hno.resolve_left (by rw [hb]; simp)
    rw [hb] at c1
    rw [hw] at c2
    clear hno
    go_enter Try.func20, Try.ntmps20
    go_wp2
    go_ret2
    rw [HQ.out]
    exact ⟨rfl, HD.out.mono (fun k h => .inl h), Keeps.refl _ _⟩
set_option maxHeartbeats 1600000 in
set_option maxRecDepth 100000 in
theorem rput_on (h : DIs w S g d) (hb : d.bad = false) (hd : d.done = false) (hl : d.b.length ≤ 100000) (hB : IsB d.b) (x : Int) (h0 : 0 ≤ x ∧ x < 256) : Calls Try.prog 20 #[.pointer (some ⟨g, 0, none⟩), .int .u8 x] w (Rets (DStep w S g (d.put x))) := by
  obtain ⟨vb, vx, R1, R2, hp⟩ := h.parts2
  obtain ⟨A, c, rfl, _⟩ := hp.ob.slice
  have HP := Lib.hid hp
  have HB := Lib.hid hp.blk
  have hgl := hp.own.2
  have c0 : w.cell? ⟨g, 0, none⟩ = some (.slice A d.b.length c) := (cell_of_row w g 0 _ _ _ hp.blk).trans rfl
  have c1 : w.cell? ⟨g, 1, none⟩ = some (.bool d.bad) := (cell_of_row w g 1 _ _ _ hp.blk).trans rfl
  have c2 : w.cell? ⟨g, 2, none⟩ = some (.bool d.done) := (cell_of_row w g 2 _ _ _ hp.blk).trans rfl
  rw [hb] at c1
  rw [hd] at c2
  obtain ⟨x0, x1⟩ := h0
  have HBl := Lib.hid (hB.app (IsB.one ⟨x0, x1⟩))
  obtain ⟨t, ht⟩ : ∃ t, Wire.docWhole (d.b ++ [x]) = t := ⟨_, rfl⟩
  have HT := Lib.hid ht
  have HQ0 := Lib.hid (show d.put x = if t.2.2 = 0 then ((true, 0), { d with b := d.b ++ [x], done := true, x := t.1 }) else if t.2.2 ≠ 3 then ((false, t.2.2), { d with b := d.b ++ [x], bad := true }) else ((false, 0), { d with b := d.b ++ [x] }) by unfold DR.put; rw [if_neg (by rw [hb, hd]; simp), ht])
  have hbl : (d.b ++ [x]).length = d.b.length + 1 := by simp
  have HBL := Lib.hid hbl
  have HBd := Lib.hid hb
  clear hp h ht hb hd hbl
  obtain ⟨tx, tn, te⟩ := t
  simp only at HQ0
  by_cases h00 : te = 0
  · subst h00
    have HQ := Lib.hid (HQ0.out.trans (if_pos rfl))
    clear HQ0
    go_enter Try.func20, Try.ntmps20
    go_wp2_with (first | ((with_reducible refine at_ 25 rfl ?_); go_must (refine step_lit rfl 22 _ 1 rfl [.int .u8 x] rfl rfl (by decide) 5 _ 1 Try.underlying22 row2_byte (by decide) (by decide) (by intro v hv; rw [List.mem_singleton] at hv; subst hv; rfl) ?_); intro w4 hb4 hk4 hs4) | ((with_reducible refine at_ 26 rfl ?_); go_must (refine step_append_rd (ok2 := fun k => w.heap.size ≤ k) rfl _ _ _ rfl 5 _ 1 1 Try.underlying22 row_byte rfl (by decide) (.slice A d.b.length c) d.b.length (Disk.bytes8 d.b) rfl (HP.out.ob.kept hk4 (fun _ _ h => h)) _ 1 (Disk.bytes8 [x]) rfl (lit8 hb4 (Nat.le_refl _)) rfl (Disk.bytes8_one [x]) (by simp only [maxLen]; omega) (by omega) ?_); intro v5 w5 hO5 hk5; obtain ⟨A5, c5, rfl, _⟩ := hO5.slice; have HO5 := Lib.hid (hO5.mono (ok' := fun k => R1 k ∨ w.heap.size ≤ k) (fun k _ h => h.imp id (fun h => Nat.le_trans hk4.size h))); have HPq := HP.out; have hk5b := hk5.mono (S' := R1) (fun k _ h => HPq.ob.2 k h); have HB5 := Lib.hid (hk5b.heap (hk4.heap HB.out (fun h => h)) (fun h => (HPq.d1 g h).2 rfl)); have HK45 := Lib.hid ((hk4.mono (S' := R1) (fun _ _ h => h.elim)).trans hk5b (fun k _ h => h)); clear hO5 hk5 hk5b HPq) | ((with_reducible refine at_store 22 (.tmp 28) (.tmp 26) rfl ?_); go_must (refine step_store1 rfl _ _ _ rfl g 0 (.slice A5 (d.b.length + 1) c5) _ _ rfl rfl rfl HB5.out (by simp [dcells]) info_bytes12 ?_); intro w6 hb6 hk6 hs6; have HB6 := Lib.hid hb6; have HK6 := Lib.hid hk6; have HR6 := Lib.hid (show Rd w6 (fun k => k < w6.heap.size) (.slice A5 (d.b ++ [x]).length c5) (d.b ++ [x]).length (Disk.bytes8 (d.b ++ [x])) by rw [HBL.out, Disk.bytes8_append]; exact ((HO5.out.kept hk6 (fun k h h' => by rcases h with h | h; exact (HP.out.d1 k h).2 h'; have := hk4.size; omega)).rd.lt.mono (fun k h => h.2))); have c0b : w6.cell? ⟨g, 0, none⟩ = some (.slice A5 (d.b.length + 1) c5) := (cell_of_row w6 g 0 _ _ _ hb6).trans rfl; clear hb6 c0) | (go_at_call 14; refine Rets.use (rwholeW_c (.slice A5 (d.b.length + 1) c5) (d.b ++ [x]) (by have := HR6.out; rw [HBL.out] at this ⊢; exact this) (by rw [HBL.out]; omega) HBl.out) ?_; rw [HT.out]; rintro v7 w7 ⟨hk7, u7, rfl, hO7⟩; have HO7 := Lib.hid hO7; obtain ⟨A7, c7, rfl, _⟩ := hO7.slice; have HK7 := Lib.hid hk7; have hz7 : g < w7.heap.size := Nat.lt_of_lt_of_le (lt_of HB6.out) hk7.size; clear hO7) | ((with_reducible refine at_ 6 rfl ?_); go_must (refine step_alloc rfl _ rfl _ zq row_req rfl ?_); intro w8 hb8 hk8 hs8) | ((with_reducible refine at_store 26 (.tmp 6) (.tmp 35) rfl ?_); go_must (refine step_store rfl _ _ _ rfl w7.heap.size 0 (reqC tx (.slice A7 tx.body.length c7)) _ _ rfl rfl hb8 (by simp [zq, reqC]) (info_reqC _ _) (by simp [reqC, Value.oneCell']) ?_); intro w9 hb9 hk9 hs9; rw [put_whole (by rfl)] at hb9; have HK9 := Lib.hid (fresh_set (Keeps.refl _ w7) hk8 hk9); have HX8 := Lib.hid hb9; have HB8 := Lib.hid (HK9.out.heap (HK7.out.heap HB6.out (fun h => h)) (fun h => h)); clear hb9 hb8 hk8 hk9))
    refine Canon.region [2, 5] [] [] (.seg [0, 1, 3, 4] (.fork 2 (.loud 5 (.seg [6, 7, 8] .stop)) 5 (.loud 2 (.seg [6, 7, 8] .stop)))) (by kernel_rfl) (by kernel_rfl) (by repeat (first | (with_reducible exact Safe.body) | (with_reducible apply Safe.then) | (with_reducible apply Safe.inBlock) | (dsimp +zetaDelta only))) ?_
    simp only [Canon.pick, Canon.wpPlan, List.getElem?_toArray, List.getElem?_cons_zero, List.getElem?_cons_succ]
    have KD : Keeps (fun _ => False) w9 w9.drew := (Keeps.refl _ w9).drew
    have HB9 := Lib.hid (KD.heap HB8.out (fun h => h))
    have HX9 := Lib.hid (KD.heap HX8.out (fun h => h))
    go_wp2
    refine ⟨?_, ?_⟩
    · go_wp2_with ((with_reducible refine at_ 42 rfl ?_); go_must (refine step_load rfl _ _ rfl w7.heap.size 0 (reqC tx (.slice A7 tx.body.length c7)) _ _ (0, 0) _ rfl HX9.out rfl Try.underlying26 rfl info_req ?_))
      refine ⟨fun p hp => (by cases hp), ?_⟩
      go_wp2_with ((with_reducible refine at_store 4 (.tmp 44) (.const (.bool true)) rfl ?_); go_must (refine step_store1 rfl _ _ _ rfl g 2 (.bool true) _ _ rfl rfl rfl HB9.out (by simp [dcells]) info_boolW ?_); intro w10 hb10 hk10 hs10)
      refine ⟨fun p hp => (by cases hp), ?_⟩
      go_wp2_with ((with_reducible refine at_store 26 (.tmp 46) (.tmp 42) rfl ?_); go_must (refine step_store rfl _ _ _ rfl g 3 (reqC tx (.slice A7 tx.body.length c7)) _ _ rfl rfl hb10 (by simp [dcells, reqC]) (info_reqC _ _) (by simp [reqC, Value.oneCell']) ?_); intro w11 hb11 hk11 hs11)
      refine ⟨by rfl, trivial, ?_⟩
      go_wp2
      go_ret2
      rw [HQ.out]
      have hq := HP.out
      have hz4 := HK45.out.size
      have hz67 := HK7.out.size
      have hz79 := HK9.out.size
      have z5 := HK6.out.size
      have hkg : Keeps (fun k => k = g) w9 w11 := (KD.mono (fun _ _ h => h.elim)).trans (hk10.trans hk11 (fun _ _ h => h)) (fun _ _ h => h)
      have hkF : Keeps (fun _ => False) w6 w9 := HK7.out.trans HK9.out (fun _ _ h => h)
      have hk5 : Keeps (fun k => k = g) w5 w11 := (HK6.out.trans hkF (fun _ _ h => h.elim)).trans hkg (fun _ _ h => h)
      refine ⟨rfl, ⟨.slice A5 (d.b.length + 1) c5, .slice A7 tx.body.length c7, fun k => (R1 k ∨ w.heap.size ≤ k) ∧ k < w6.heap.size, fun k => w6.heap.size ≤ k, ?_, .inl hq.own.1, ?_, ?_, fun k h => ⟨h.1.elim (fun h => .inl (hq.d1 k h).1.1) .inr, fun e => h.1.elim (fun h => (hq.d1 k h).2 e) (fun h => by omega)⟩, fun k h => ⟨.inr (by omega), by omega⟩, fun k h h' => by omega⟩, (((HK45.out.mono (fun k _ h => (hq.d1 k h).1.1)).trans hk5 (fun k _ e => by subst e; exact hq.own.1)))⟩
      · exact hb11
      · show OwnRow w11 _ _ 1 _ (d.b ++ [x]).length (Disk.bytes8 (d.b ++ [x]))
        rw [HBL.out, Disk.bytes8_append]
        exact (HO5.out.mono (ok' := fun k => (R1 k ∨ w.heap.size ≤ k) ∧ k < w6.heap.size) (fun k hk h => ⟨h, by omega⟩)).kept hk5 (fun k h e => h.1.elim (fun h => (hq.d1 k h).2 e) (fun h => by omega))
      · exact ((HO7.out.kept HK9.out (fun _ _ h => h)).kept hkg (fun k h e => by have := lt_of HB6.out; omega)).mono (fun k _ h => h)
    · go_wp2_with ((with_reducible refine at_store 4 (.tmp 44) (.const (.bool true)) rfl ?_); go_must (refine step_store1 rfl _ _ _ rfl g 2 (.bool true) _ _ rfl rfl rfl HB9.out (by simp [dcells]) info_boolW ?_); intro w10 hb10 hk10 hs10)
      refine ⟨fun p hp => (by cases hp), ?_⟩
      go_wp2_with ((with_reducible refine at_ 42 rfl ?_); go_must (refine step_load rfl _ _ rfl w7.heap.size 0 (reqC tx (.slice A7 tx.body.length c7)) _ _ (0, 0) _ rfl (hk10.heap HX9.out (fun h => by have h2 : w7.heap.size = g := h; omega)) rfl Try.underlying26 rfl info_req ?_))
      refine ⟨fun p hp => (by cases hp), ?_⟩
      go_wp2_with ((with_reducible refine at_store 26 (.tmp 46) (.tmp 42) rfl ?_); go_must (refine step_store rfl _ _ _ rfl g 3 (reqC tx (.slice A7 tx.body.length c7)) _ _ rfl rfl hb10 (by simp [dcells, reqC]) (info_reqC _ _) (by simp [reqC, Value.oneCell']) ?_); intro w11 hb11 hk11 hs11)
      refine ⟨by rfl, trivial, ?_⟩
      go_wp2
      go_ret2
      rw [HQ.out]
      have hq := HP.out
      have hz4 := HK45.out.size
      have hz67 := HK7.out.size
      have hz79 := HK9.out.size
      have z5 := HK6.out.size
      have hkg : Keeps (fun k => k = g) w9 w11 := (KD.mono (fun _ _ h => h.elim)).trans (hk10.trans hk11 (fun _ _ h => h)) (fun _ _ h => h)
      have hkF : Keeps (fun _ => False) w6 w9 := HK7.out.trans HK9.out (fun _ _ h => h)
      have hk5 : Keeps (fun k => k = g) w5 w11 := (HK6.out.trans hkF (fun _ _ h => h.elim)).trans hkg (fun _ _ h => h)
      refine ⟨rfl, ⟨.slice A5 (d.b.length + 1) c5, .slice A7 tx.body.length c7, fun k => (R1 k ∨ w.heap.size ≤ k) ∧ k < w6.heap.size, fun k => w6.heap.size ≤ k, ?_, .inl hq.own.1, ?_, ?_, fun k h => ⟨h.1.elim (fun h => .inl (hq.d1 k h).1.1) .inr, fun e => h.1.elim (fun h => (hq.d1 k h).2 e) (fun h => by omega)⟩, fun k h => ⟨.inr (by omega), by omega⟩, fun k h h' => by omega⟩, (((HK45.out.mono (fun k _ h => (hq.d1 k h).1.1)).trans hk5 (fun k _ e => by subst e; exact hq.own.1)))⟩
      · exact hb11
      · show OwnRow w11 _ _ 1 _ (d.b ++ [x]).length (Disk.bytes8 (d.b ++ [x]))
        rw [HBL.out, Disk.bytes8_append]
        exact (HO5.out.mono (ok' := fun k => (R1 k ∨ w.heap.size ≤ k) ∧ k < w6.heap.size) (fun k hk h => ⟨h, by omega⟩)).kept hk5 (fun k h e => h.1.elim (fun h => (hq.d1 k h).2 e) (fun h => by omega))
      · exact ((HO7.out.kept HK9.out (fun _ _ h => h)).kept hkg (fun k h e => by have := lt_of HB6.out; omega)).mono (fun k _ h => h)
  · have he0 : (te == 0) = false := by simpa using h00
    by_cases h3 : te = 3
    · subst h3
      have HQ := Lib.hid (HQ0.out.trans ((if_neg h00).trans (if_neg (by simp))))
      clear HQ0 h00
      go_enter Try.func20, Try.ntmps20
      go_wp2_with (first | ((with_reducible refine at_ 25 rfl ?_); go_must (refine step_lit rfl 22 _ 1 rfl [.int .u8 x] rfl rfl (by decide) 5 _ 1 Try.underlying22 row2_byte (by decide) (by decide) (by intro v hv; rw [List.mem_singleton] at hv; subst hv; rfl) ?_); intro w4 hb4 hk4 hs4) | ((with_reducible refine at_ 26 rfl ?_); go_must (refine step_append_rd (ok2 := fun k => w.heap.size ≤ k) rfl _ _ _ rfl 5 _ 1 1 Try.underlying22 row_byte rfl (by decide) (.slice A d.b.length c) d.b.length (Disk.bytes8 d.b) rfl (HP.out.ob.kept hk4 (fun _ _ h => h)) _ 1 (Disk.bytes8 [x]) rfl (lit8 hb4 (Nat.le_refl _)) rfl (Disk.bytes8_one [x]) (by simp only [maxLen]; omega) (by omega) ?_); intro v5 w5 hO5 hk5; obtain ⟨A5, c5, rfl, _⟩ := hO5.slice; have HO5 := Lib.hid (hO5.mono (ok' := fun k => R1 k ∨ w.heap.size ≤ k) (fun k _ h => h.imp id (fun h => Nat.le_trans hk4.size h))); have HPq := HP.out; have hk5b := hk5.mono (S' := R1) (fun k _ h => HPq.ob.2 k h); have HB5 := Lib.hid (hk5b.heap (hk4.heap HB.out (fun h => h)) (fun h => (HPq.d1 g h).2 rfl)); have HK45 := Lib.hid ((hk4.mono (S' := R1) (fun _ _ h => h.elim)).trans hk5b (fun k _ h => h)); clear hO5 hk5 hk5b HPq) | ((with_reducible refine at_store 22 (.tmp 28) (.tmp 26) rfl ?_); go_must (refine step_store1 rfl _ _ _ rfl g 0 (.slice A5 (d.b.length + 1) c5) _ _ rfl rfl rfl HB5.out (by simp [dcells]) info_bytes12 ?_); intro w6 hb6 hk6 hs6; have HB6 := Lib.hid hb6; have HK6 := Lib.hid hk6; have HR6 := Lib.hid (show Rd w6 (fun k => k < w6.heap.size) (.slice A5 (d.b ++ [x]).length c5) (d.b ++ [x]).length (Disk.bytes8 (d.b ++ [x])) by rw [HBL.out, Disk.bytes8_append]; exact ((HO5.out.kept hk6 (fun k h h' => by rcases h with h | h; exact (HP.out.d1 k h).2 h'; have := hk4.size; omega)).rd.lt.mono (fun k h => h.2))); have c0b : w6.cell? ⟨g, 0, none⟩ = some (.slice A5 (d.b.length + 1) c5) := (cell_of_row w6 g 0 _ _ _ hb6).trans rfl; clear hb6 c0) | (go_at_call 14; refine Rets.use (rwholeW_c (.slice A5 (d.b.length + 1) c5) (d.b ++ [x]) (by have := HR6.out; rw [HBL.out] at this ⊢; exact this) (by rw [HBL.out]; omega) HBl.out) ?_; rw [HT.out]; rintro v7 w7 ⟨hk7, u7, rfl, hO7⟩; have HO7 := Lib.hid hO7; obtain ⟨A7, c7, rfl, _⟩ := hO7.slice; have HK7 := Lib.hid hk7; have hz7 : g < w7.heap.size := Nat.lt_of_lt_of_le (lt_of HB6.out) hk7.size; clear hO7) | ((with_reducible refine at_ 6 rfl ?_); go_must (refine step_alloc rfl _ rfl _ zq row_req rfl ?_); intro w8 hb8 hk8 hs8) | ((with_reducible refine at_store 26 (.tmp 6) (.tmp 35) rfl ?_); go_must (refine step_store rfl _ _ _ rfl w7.heap.size 0 (reqC tx (.slice A7 tx.body.length c7)) _ _ rfl rfl hb8 (by simp [zq, reqC]) (info_reqC _ _) (by simp [reqC, Value.oneCell']) ?_); intro w9 hb9 hk9 hs9; rw [put_whole (by rfl)] at hb9; have HK9 := Lib.hid (fresh_set (Keeps.refl _ w7) hk8 hk9); have HX8 := Lib.hid hb9; have HB8 := Lib.hid (HK9.out.heap (HK7.out.heap HB6.out (fun h => h)) (fun h => h)); clear hb9 hb8 hk8 hk9))
      go_ret2
      rw [HQ.out]
      have hkz := HK6.out.trans (HK7.out.trans HK9.out (fun _ _ h => h)) (fun _ _ h => h.elim)
      have hq := HP.out
      have hz4 := HK45.out.size
      have hz67 := HK7.out.size
      have z5 := HK6.out.size
      have hkF : Keeps (fun _ => False) w6 w9 := HK7.out.trans HK9.out (fun _ _ h => h)
      have hk5 : Keeps (fun k => k = g) w5 w9 := hkz
      refine ⟨rfl, ⟨.slice A5 (d.b.length + 1) c5, vx, fun k => R1 k ∨ w.heap.size ≤ k, R2, ?_, .inl hq.own.1, ?_, ?_, fun k h => ⟨h.elim (fun h => .inl (hq.d1 k h).1.1) .inr, fun e => h.elim (fun h => (hq.d1 k h).2 e) (fun h => by omega)⟩, fun k h => ⟨.inl (hq.d2 k h).1.1, (hq.d2 k h).2⟩, fun k h h' => h.elim (fun h => hq.d12 k h h') (fun h => by have := (hq.d2 k h').1.2; omega)⟩, (((HK45.out.mono (fun k _ h => (hq.d1 k h).1.1)).trans hk5 (fun k _ e => by subst e; exact hq.own.1)))⟩
      rotate_left
      · show OwnRow w9 _ _ 1 _ (d.b ++ [x]).length (Disk.bytes8 (d.b ++ [x]))
        rw [HBL.out, Disk.bytes8_append]
        exact HO5.out.kept hk5 (fun k h e => h.elim (fun h => (hq.d1 k h).2 e) (fun h => by omega))
      · exact (hq.ox.kept HK45.out (fun k h h' => hq.d12 k h' h)).kept hk5 (fun k h => (hq.d2 k h).2)
      exact HB8.out
    · have he3 : (te != 3) = true := by simpa using h3
      have HQ := Lib.hid (HQ0.out.trans ((if_neg h00).trans (if_pos h3)))
      clear HQ0 h00 h3
      go_enter Try.func20, Try.ntmps20
      go_wp2_with (first
        | (first | ((with_reducible refine at_ 25 rfl ?_); go_must (refine step_lit rfl 22 _ 1 rfl [.int .u8 x] rfl rfl (by decide) 5 _ 1 Try.underlying22 row2_byte (by decide) (by decide) (by intro v hv; rw [List.mem_singleton] at hv; subst hv; rfl) ?_); intro w4 hb4 hk4 hs4) | ((with_reducible refine at_ 26 rfl ?_); go_must (refine step_append_rd (ok2 := fun k => w.heap.size ≤ k) rfl _ _ _ rfl 5 _ 1 1 Try.underlying22 row_byte rfl (by decide) (.slice A d.b.length c) d.b.length (Disk.bytes8 d.b) rfl (HP.out.ob.kept hk4 (fun _ _ h => h)) _ 1 (Disk.bytes8 [x]) rfl (lit8 hb4 (Nat.le_refl _)) rfl (Disk.bytes8_one [x]) (by simp only [maxLen]; omega) (by omega) ?_); intro v5 w5 hO5 hk5; obtain ⟨A5, c5, rfl, _⟩ := hO5.slice; have HO5 := Lib.hid (hO5.mono (ok' := fun k => R1 k ∨ w.heap.size ≤ k) (fun k _ h => h.imp id (fun h => Nat.le_trans hk4.size h))); have HPq := HP.out; have hk5b := hk5.mono (S' := R1) (fun k _ h => HPq.ob.2 k h); have HB5 := Lib.hid (hk5b.heap (hk4.heap HB.out (fun h => h)) (fun h => (HPq.d1 g h).2 rfl)); have HK45 := Lib.hid ((hk4.mono (S' := R1) (fun _ _ h => h.elim)).trans hk5b (fun k _ h => h)); clear hO5 hk5 hk5b HPq) | ((with_reducible refine at_store 22 (.tmp 28) (.tmp 26) rfl ?_); go_must (refine step_store1 rfl _ _ _ rfl g 0 (.slice A5 (d.b.length + 1) c5) _ _ rfl rfl rfl HB5.out (by simp [dcells]) info_bytes12 ?_); intro w6 hb6 hk6 hs6; have HB6 := Lib.hid hb6; have HK6 := Lib.hid hk6; have HR6 := Lib.hid (show Rd w6 (fun k => k < w6.heap.size) (.slice A5 (d.b ++ [x]).length c5) (d.b ++ [x]).length (Disk.bytes8 (d.b ++ [x])) by rw [HBL.out, Disk.bytes8_append]; exact ((HO5.out.kept hk6 (fun k h h' => by rcases h with h | h; exact (HP.out.d1 k h).2 h'; have := hk4.size; omega)).rd.lt.mono (fun k h => h.2))); have c0b : w6.cell? ⟨g, 0, none⟩ = some (.slice A5 (d.b.length + 1) c5) := (cell_of_row w6 g 0 _ _ _ hb6).trans rfl; clear hb6 c0) | (go_at_call 14; refine Rets.use (rwholeW_c (.slice A5 (d.b.length + 1) c5) (d.b ++ [x]) (by have := HR6.out; rw [HBL.out] at this ⊢; exact this) (by rw [HBL.out]; omega) HBl.out) ?_; rw [HT.out]; rintro v7 w7 ⟨hk7, u7, rfl, hO7⟩; have HO7 := Lib.hid hO7; obtain ⟨A7, c7, rfl, _⟩ := hO7.slice; have HK7 := Lib.hid hk7; have hz7 : g < w7.heap.size := Nat.lt_of_lt_of_le (lt_of HB6.out) hk7.size; clear hO7) | ((with_reducible refine at_ 6 rfl ?_); go_must (refine step_alloc rfl _ rfl _ zq row_req rfl ?_); intro w8 hb8 hk8 hs8) | ((with_reducible refine at_store 26 (.tmp 6) (.tmp 35) rfl ?_); go_must (refine step_store rfl _ _ _ rfl w7.heap.size 0 (reqC tx (.slice A7 tx.body.length c7)) _ _ rfl rfl hb8 (by simp [zq, reqC]) (info_reqC _ _) (by simp [reqC, Value.oneCell']) ?_); intro w9 hb9 hk9 hs9; rw [put_whole (by rfl)] at hb9; have HK9 := Lib.hid (fresh_set (Keeps.refl _ w7) hk8 hk9); have HX8 := Lib.hid hb9; have HB8 := Lib.hid (HK9.out.heap (HK7.out.heap HB6.out (fun h => h)) (fun h => h)); clear hb9 hb8 hk8 hk9))
        | ((with_reducible refine at_store 4 (.tmp 51) (.const (.bool true)) rfl ?_); go_must (refine step_store1 rfl _ _ _ rfl g 1 (.bool true) _ _ rfl rfl rfl HB8.out (by simp [dcells]) info_boolW ?_); intro w10 hb10 hk10 hs10))
      go_ret2
      rw [HQ.out]
      have hkz := (HK6.out.trans (HK7.out.trans HK9.out (fun _ _ h => h)) (fun _ _ h => h.elim)).trans hk10 (fun _ _ h => h)
      have hq := HP.out
      have hz4 := HK45.out.size
      have hz67 := HK7.out.size
      have z5 := HK6.out.size
      have hkF : Keeps (fun _ => False) w6 w9 := HK7.out.trans HK9.out (fun _ _ h => h)
      have hk5 : Keeps (fun k => k = g) w5 w10 := hkz
      refine ⟨rfl, ⟨.slice A5 (d.b.length + 1) c5, vx, fun k => R1 k ∨ w.heap.size ≤ k, R2, ?_, .inl hq.own.1, ?_, ?_, fun k h => ⟨h.elim (fun h => .inl (hq.d1 k h).1.1) .inr, fun e => h.elim (fun h => (hq.d1 k h).2 e) (fun h => by omega)⟩, fun k h => ⟨.inl (hq.d2 k h).1.1, (hq.d2 k h).2⟩, fun k h h' => h.elim (fun h => hq.d12 k h h') (fun h => by have := (hq.d2 k h').1.2; omega)⟩, (((HK45.out.mono (fun k _ h => (hq.d1 k h).1.1)).trans hk5 (fun k _ e => by subst e; exact hq.own.1)))⟩
      rotate_left
      · show OwnRow w10 _ _ 1 _ (d.b ++ [x]).length (Disk.bytes8 (d.b ++ [x]))
        rw [HBL.out, Disk.bytes8_append]
        exact HO5.out.kept hk5 (fun k h e => h.elim (fun h => (hq.d1 k h).2 e) (fun h => by omega))
      · exact (hq.ox.kept HK45.out (fun k h h' => hq.d12 k h' h)).kept hk5 (fun k h => (hq.d2 k h).2)
      exact hb10
theorem rput_c (h : DIs w S g d) (hl : d.b.length ≤ 100000) (hB : IsB d.b) (x : Int) (h0 : 0 ≤ x ∧ x < 256) : Calls Try.prog 20 #[.pointer (some ⟨g, 0, none⟩), .int .u8 x] w (Rets (DStep w S g (d.put x))) := by
  cases hb : d.bad with
  | true => exact rput_no h (.inl hb) x
  | false =>
    cases hd : d.done with
    | true => exact rput_no h (.inr hd) x
    | false => exact rput_on h hb hd hl hB x h0
/-- What is taken of the document's reader. -/
def DTake (w : World) (S : Nat → Prop) (g : Nat) (d : DR) : Value → World → Prop := fun v w' => ∃ vx, v = .tuple #[reqV d.x vx, .bool true] ∧ OwnRow w' (fun k => S k ∧ k ≠ g ∧ k < w.heap.size) 5 1 vx d.x.body.length (Disk.bytes8 d.x.body) ∧ DIs w' (fun k => k = g) g { d with b := [], done := false, x := Wire.zeroR } ∧ Keeps (fun k => k = g) w w'
theorem rtake_no (h : DIs w S g d) (hd : d.done = false) : Calls Try.prog 23 #[.pointer (some ⟨g, 0, none⟩)] w (Rets (NoTake w)) := by
  obtain ⟨vb, vx, R1, R2, hp⟩ := h
  have c2 : w.cell? ⟨g, 2, none⟩ = some (.bool d.done) := (cell_of_row w g 2 _ _ _ hp.blk).trans rfl
  rw [hd] at c2
  clear hp
  obtain ⟨w1, hw1⟩ : ∃ w1, w1 = w.alloc (.cells #[.string ⟨#[]⟩, .string ⟨#[]⟩, .string ⟨#[]⟩, .slice none 0 0] 26) := ⟨_, rfl⟩
  obtain ⟨hb1, hk1, hs1⟩ := alloc1 hw1
  have HW := Lib.hid hw1
  have HB1 := Lib.hid hb1
  have c2 := hk1.cell c2 (fun h => h)
  rw [hw1] at c2
  clear hw1 hb1
  go_enter Try.func23, Try.ntmps23
  go_wp2_with ((with_reducible refine at_store 26 (.tmp 2) (.tmp 10) rfl ?_); rw [← HW.out]; go_must (refine step_store rfl _ _ _ rfl w.heap.size 0 zq _ _ rfl rfl HB1.out (by simp [zq]) info_req (by simp [zq, Value.oneCell']) ?_); intro w4 hb4 hk4 hs4; rw [put_whole (by rfl)] at hb4)
  refine bodyPost_ret (ret_cell_tmp rfl zq _ rfl hb4 Try.underlying26 rfl info_req) rfl ?_
  exact ⟨rfl, ((hk1.mono (S' := fun k => w.heap.size ≤ k) (fun _ _ h => h.elim)).trans (S' := fun k => k = w.heap.size) hk4 (fun k hk h => by omega)).mono (fun k hk h => by omega)⟩
set_option maxHeartbeats 1600000 in
theorem rtake_yes (h : DIs w S g d) (hd : d.done = true) : Calls Try.prog 23 #[.pointer (some ⟨g, 0, none⟩)] w (Rets (DTake w S g d)) := by
  obtain ⟨vb, vx, R1, R2, hp⟩ := h.parts2
  obtain ⟨A, c, rfl, _⟩ := hp.ox.slice
  have HP := Lib.hid hp
  have hgl := hp.own.2
  obtain ⟨w1, hw1⟩ : ∃ w1, w1 = w.alloc (.cells #[.string ⟨#[]⟩, .string ⟨#[]⟩, .string ⟨#[]⟩, .slice none 0 0] 26) := ⟨_, rfl⟩
  obtain ⟨hb1, hk1, hs1⟩ := alloc1 hw1
  have HW := Lib.hid hw1
  have HB := Lib.hid (hk1.heap hp.blk (fun h => h))
  have HB1 := Lib.hid hb1
  have c2 : w1.cell? ⟨g, 2, none⟩ = some (.bool d.done) := (cell_of_row w1 g 2 _ _ _ HB.out).trans rfl
  rw [hd] at c2
  rw [hw1] at c2
  clear hp h hw1 hb1
  go_enter Try.func23, Try.ntmps23
  go_wp2_with (first
    | ((with_reducible refine at_ 14 rfl ?_); rw [← HW.out]; go_must (refine step_load rfl _ _ rfl g 3 (reqC d.x (.slice A d.x.body.length c)) _ _ (0, 0) _ rfl HB.out rfl Try.underlying26 rfl info_req ?_))
    | ((with_reducible refine at_store 26 (.tmp 4) (.tmp 14) rfl ?_); go_must (refine step_store rfl _ _ _ rfl (w.heap.size + 1) 0 (reqC d.x (.slice A d.x.body.length c)) zq _ rfl rfl (by rw [← hs1]; exact heap_alloc_new w1 _) (by simp [zq, reqC]) info_req (by simp [reqC, Value.oneCell']) ?_); intro w2 hb2 hk2 hs2; rw [put_whole (by rfl)] at hb2; have hk12 : Keeps (fun k => k = w.heap.size + 1) w1 w2 := ((Keeps.refl _ w1).alloc _).trans hk2 (fun _ _ h => h); have HB2 := Lib.hid (hk12.heap HB.out (fun h => by omega)); have HB3 := Lib.hid hb2; clear hb2)
    | ((with_reducible refine at_store 22 (.tmp 20) (.const (.slice none 0 0)) rfl ?_); go_must (refine step_store1 rfl _ _ _ rfl g 0 (.slice none 0 0) _ _ rfl rfl rfl HB2.out (by simp [dcells]) info_bytes12 ?_); intro w3 hb3 hk3 hs3)
    | ((with_reducible refine at_store 4 (.tmp 22) (.const (.bool false)) rfl ?_); go_must (refine step_store1 rfl _ _ _ rfl g 2 (.bool false) _ _ rfl rfl rfl hb3 (by simp [dcells]) info_boolW ?_); intro w4 hb4 hk4 hs4)
    | ((with_reducible refine at_store 26 (.tmp 24) (.tmp 18) rfl ?_); go_must (refine step_store rfl _ _ _ rfl g 3 zq _ _ rfl rfl hb4 (by simp [dcells, zq]) info_req (by simp [zq, Value.oneCell']) ?_); intro w5 hb5 hk5 hs5; have HBn := Lib.hid hb5; have HKg := Lib.hid ((hk3.trans hk4 (fun _ _ h => h)).trans hk5 (fun _ _ h => h)); have HB4 := Lib.hid (HKg.out.heap HB3.out (fun h => by omega)))
    | ((with_reducible refine at_ 25 rfl ?_); go_must (refine step_load rfl _ _ rfl (w.heap.size + 1) 0 (reqC d.x (.slice A d.x.body.length c)) _ _ (0, 0) _ rfl HB4.out rfl Try.underlying26 rfl info_req ?_))
    | ((with_reducible refine at_store 26 (.tmp 2) (.tmp 25) rfl ?_); go_must (refine step_store rfl _ _ _ rfl w.heap.size 0 (reqC d.x (.slice A d.x.body.length c)) _ _ rfl rfl (HKg.out.heap (hk12.heap HB1.out (fun h => by omega)) (fun h => by omega)) (by simp [reqC]) info_req (by simp [reqC, Value.oneCell']) ?_); intro w6 hb6 hk6 hs6; rw [put_whole (by rfl)] at hb6))
  refine bodyPost_ret (ret_cell_tmp rfl (reqC d.x (.slice A d.x.body.length c)) _ rfl hb6 Try.underlying26 rfl info_req) rfl ?_
  have hq := HP.out
  have hkA : Keeps (fun k => k = g ∨ w.heap.size ≤ k) w w6 := (((hk1.mono (fun _ _ h => h.elim)).trans hk12 (fun k _ h => .inr (by omega))).trans HKg.out (fun k _ h => .inl h)).trans hk6 (fun k _ h => .inr (by omega))
  exact ⟨.slice A d.x.body.length c, rfl, (hq.ox.kept hkA (fun k h h' => h'.elim (hq.d2 k h).2 (fun h' => by have := (hq.d2 k h).1.2; omega))).mono (fun k _ h => ⟨(hq.d2 k h).1.1, (hq.d2 k h).2, (hq.d2 k h).1.2⟩),
    ⟨.slice none 0 0, .slice none 0 0, fun _ => False, fun _ => False, ⟨hk6.heap HBn.out (fun h => by omega), rfl, OwnRow.nil _ _ _ _, OwnRow.nil _ _ _ _, fun _ h => h.elim, fun _ h => h.elim, fun _ h => h.elim⟩⟩, hkA.mono (fun k hk h => h.resolve_right (by omega))⟩
end
end Go.Proofs.Ytibegbmehpggbaa
