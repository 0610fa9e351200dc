/-
  WalHalts: the walk.
-/
import Derived.Test.YtmkpdoljaccpaaaHalfP
namespace Go.Proofs.Ytmkpdoljaccpaaa
open Go.RowKit Go.Canon Go.Mem Go.Args
open Go.Disk (St)
set_option linter.unusedVariables false
set_option linter.unusedSimpArgs false
section
variable {W w0 w w' : World} {g : Nat} {lo : Option (Nat × LogS)} {s : St} {F F' : Nat → Prop}
theorem wf_sync (h : WF W w g lo s F) (few : s.opn.length ≤ 1000000) : Calls Try.prog 14 #[.pointer (some ⟨g, 0, none⟩)] w (Rets (WFPost W w g lo s.sync.1 s.sync.2 F)) := by
  obtain ⟨h0, P, Q, hd, hm, hP, hQ, hF⟩ := h
  exact Rets.use (dSync_c hd few) (fun v' w' hp => WF.disk h0 hm hP hQ hF hp)
theorem wf_write {ok : Nat → Prop} (h : WF W w g lo s F) (few : s.opn.length ≤ 1000000) (i : Int) (v : Value) (b : List Int) (hr : Rd w ok v b.length (Disk.bytes8 b)) (hok : ∀ k, ok k → F k) (hl : b.length ≤ 1000000) : Calls Try.prog 25 #[.pointer (some ⟨g, 0, none⟩), .int .i64 i, v] w (Rets (WFPost W w g lo (s.write i b).1 (s.write i b).2 F)) := by
  obtain ⟨h0, P, Q, hd, hm, hP, hQ, hF⟩ := h
  exact Rets.use (dWrite_c hd i v b hr (fun k h => (hF k (hok k h)).2.2.1) (by omega) few) (fun v' w' hp => WF.disk h0 hm hP hQ hF hp)
/-- A sector that is read: a new block. -/
def WFRead (w : World) (x : List Int) : Value → World → Prop := fun v w' => Keeps (fun _ => False) w w' ∧ ∃ b, w.heap.size ≤ b ∧ v = .tuple #[.slice (some ⟨b, 0, none⟩) 64 64, .int .i64 0] ∧ w'.heap[b]? = some (.cells (Disk.bytes8 x).toArray 90 (0, 0))
theorem wf_read (h : WF W w g lo s F) (ho : s.off = false) {i : Nat} {x : List Int} (hx : s.now[i]? = some x) (h64 : x.length = 64) : Calls Try.prog 29 #[.pointer (some ⟨g, 0, none⟩), .int .i64 i] w (Rets (WFRead w x)) := by
  obtain ⟨h0, P, Q, hd, hm, hP, hQ, hF⟩ := h
  refine Rets.use (dRead_c hd i) (fun v w' hp => ?_)
  obtain ⟨hi, hxe⟩ := List.getElem?_eq_some_iff.1 hx
  have hr := read_on ho hi
  rw [hxe] at hr
  obtain ⟨hk, hp⟩ := hp
  rw [hr] at hp
  obtain ⟨_, _, b, hb, rfl, hc⟩ := hp.resolve_left (fun h => h.1 rfl)
  exact ⟨hk, b, hb, rfl, hc⟩
theorem wf_off (h : WF W w g lo s F) : Calls Try.prog 28 #[.pointer (some ⟨g, 0, none⟩)] w (Rets (Only (.bool s.off) w)) := by
  obtain ⟨h0, P, Q, hd, hm, hP, hQ, hF⟩ := h
  exact dOff_c hd
theorem wf_next {x : Nat} {L : LogS} (h : WF W w g (some (x, L)) s F) : Calls Try.prog 36 #[.pointer (some ⟨x, 0, none⟩)] w (Rets (Only (.int .i64 L.next) w)) := by
  obtain ⟨h0, P, Q, hd, hm, hP, hQ, hF⟩ := h
  exact next_c (hm x L rfl)
end
/-- Numbers, as cells. -/
def ints (l : List Int) : List Value := l.map (Value.int .i64)
theorem ints_len (l : List Int) : (ints l).length = l.length := by simp [ints]
theorem ints_snoc (l : List Int) (x : Int) : ints (l ++ [x]) = ints l ++ [.int .i64 x] := by simp [ints]
theorem row_int10 : (Try.prog.info? 3).map (fun i => (i.zero, i.size, i.bytes)) = some (some (.int .i64 0), 1, 8) := by kernel_rfl
theorem row2_int10 : (Try.prog.info? 3).map (fun i => (i.zero, i.size)) = some (some (.int .i64 0), 1) := by kernel_rfl
/-- Where each text's frame begins, how long it is. -/
def Marks (ts : List (List Int)) (fr sz : List Int) : Prop := fr.length = ts.length ∧ sz.length = ts.length ∧ ∀ (j : Nat) (t : List Int), ts[j]? = some t → fr[j]? = some ((laid 1 (ts.take j)).length : Int) ∧ sz[j]? = some ((t.length : Int) + 20)
theorem Marks.push {ts : List (List Int)} {fr sz : List Int} (h : Marks ts fr sz) (t : List Int) : Marks (ts ++ [t]) (fr ++ [((laid 1 ts).length : Int)]) (sz ++ [(t.length : Int) + 20]) := by
  obtain ⟨h1, h2, h3⟩ := h
  refine ⟨by simp [h1], by simp [h2], fun j u hu => ?_⟩
  by_cases hj : j < ts.length
  · rw [List.getElem?_append_left hj] at hu
    obtain ⟨a, b⟩ := h3 j u hu
    rw [List.getElem?_append_left (by omega), List.getElem?_append_left (by omega), List.take_append_of_le_length (by omega)]
    exact ⟨a, b⟩
  · rw [List.getElem?_append_right (by omega)] at hu
    obtain rfl : j = ts.length := by have := (List.getElem?_eq_some_iff.1 hu).1; simp at this; omega
    obtain rfl : t = u := by simpa using hu
    rw [List.getElem?_append_right (by omega), List.getElem?_append_right (by omega), h1, h2, List.take_left']
    · simp
    · rfl
/-- The two rows of numbers, apart, in blocks of F. -/
def RowsM (w : World) (F : Nat → Prop) (vF vS : Value) (fr sz : List Int) : Prop := ∃ R1 R2 : Nat → Prop, OwnRow w R1 3 1 vF fr.length (ints fr) ∧ OwnRow w R2 3 1 vS sz.length (ints sz) ∧ (∀ k, R1 k → F k) ∧ (∀ k, R2 k → F k) ∧ (∀ k, R1 k → ¬ R2 k)
theorem RowsM.kept {w w' : World} {F F' S : Nat → Prop} {vF vS : Value} {fr sz : List Int} (h : RowsM w F vF vS fr sz) (hk : Keeps S w w') (hn : ∀ k, F k → ¬ S k) (hF : ∀ k, F k → F' k) : RowsM w' F' vF vS fr sz := by
  obtain ⟨R1, R2, h1, h2, h3, h4, h5⟩ := h
  exact ⟨R1, R2, h1.kept hk (fun k h => hn k (h3 k h)), h2.kept hk (fun k h => hn k (h4 k h)), fun k h => hF k (h3 k h), fun k h => hF k (h4 k h), h5⟩
theorem RowsM.cell1 {w : World} {F : Nat → Prop} {B n c : Nat} {vS : Value} {fr sz : List Int} (h : RowsM w F (.slice (some ⟨B, 0, none⟩) n c) vS fr sz) {j : Nat} {u : Int} (hu : fr[j]? = some u) : w.cell? ⟨B, j, none⟩ = some (.int .i64 u) := by
  obtain ⟨R1, R2, h1, h2, h3, h4, h5⟩ := h
  exact h1.cells rfl j _ (by unfold ints; rw [List.getElem?_map, hu]; rfl)
theorem RowsM.cell2 {w : World} {F : Nat → Prop} {B n c : Nat} {vF : Value} {fr sz : List Int} (h : RowsM w F vF (.slice (some ⟨B, 0, none⟩) n c) fr sz) {j : Nat} {u : Int} (hu : sz[j]? = some u) : w.cell? ⟨B, j, none⟩ = some (.int .i64 u) := by
  obtain ⟨R1, R2, h1, h2, h3, h4, h5⟩ := h
  exact h2.cells rfl j _ (by unfold ints; rw [List.getElem?_map, hu]; rfl)
theorem least_mid (n : Int) (m : Nat) (hm : 0 < m) : ∃ k : Nat, least n 0 ((m : Int) - 1) = k ∧ k < m := by
  unfold least
  split
  · exact ⟨0, rfl, hm⟩
  · split
    · exact ⟨m - 1, by omega, by omega⟩
    · exact ⟨n.toNat, by omega, by omega⟩
theorem cells8_at {w : World} {b k : Nat} {x : List Int} {y : Int} (h : w.heap[b]? = some (.cells (Disk.bytes8 x).toArray 90 (0, 0))) (hy : x[k]? = some y) : w.cell? ⟨b, k, none⟩ = some (.int .u8 y) := by
  refine (cell_of_row w b k _ _ _ h).trans ?_
  unfold Disk.bytes8
  rw [List.getElem?_toArray, List.getElem?_map, hy]
  rfl
theorem info_u8h : (Try.prog.info? 5).map (·.size) = some 1 := by kernel_rfl
/-- A sector that was read is turned in one byte. -/
theorem half_store {W wr w4 w5 : World} {g b k : Nat} {lo : Option (Nat × LogS)} {s : St} {F : Nat → Prop} {vF vS : Value} {fr sz xs : List Int} {v : Int} (hW : WF W wr g lo s F) (hR : RowsM wr F vF vS fr sz) (hk4 : Keeps (fun _ => False) wr w4) (hb4 : wr.heap.size ≤ b) (hc4 : w4.heap[b]? = some (.cells (Disk.bytes8 xs).toArray 90 (0, 0))) (hxl : xs.length = 64)
    (hb5 : w5.heap[b]? = some (.cells ((Disk.bytes8 xs).set k (.int .u8 v)).toArray 90 (0, 0))) (hk5 : Keeps (fun j => j = b) w4 w5) : ∃ F', WF W w5 g lo s F' ∧ RowsM w5 F' vF vS fr sz ∧ Rd w5 F' (.slice (some ⟨b, 0, none⟩) 64 64) (xs.set k v).length (Disk.bytes8 (xs.set k v)) := by
  have e : (Disk.bytes8 xs).set k (.int .u8 v) = Disk.bytes8 (xs.set k v) := by unfold Disk.bytes8; rw [List.map_set]
  rw [e] at hb5
  have z4 := hk4.size
  have z5 := hk5.size
  have hFw : ∀ j, F j → j < wr.heap.size := fun j h => by obtain ⟨_, P, Q, _, _, _, _, hF⟩ := hW; exact (hF j h).2.1
  have hW4 := hW.grow (F' := fun j => F j ∨ (wr.heap.size ≤ j ∧ j < w4.heap.size)) (hk4.mono (fun _ _ h => h.elim)) (fun j h => by
    rcases h with h | h
    · exact ⟨.inl h, by have := hFw j h; omega⟩
    · exact ⟨.inr h.1, h.2⟩)
  have hb : b < w4.heap.size := by
    rcases Nat.lt_or_ge b w4.heap.size with h | h
    · exact h
    · rw [Array.getElem?_eq_none h] at hc4; cases hc4
  refine ⟨fun j => F j ∨ (wr.heap.size ≤ j ∧ j < w5.heap.size), hW4.grow (hk5.mono (fun j _ e => by subst e; exact .inr ⟨hb4, hb⟩)) (fun j h => ?_), (hR.kept hk4 (fun _ _ h => h) (fun _ h => h)).kept hk5 (fun j h e => by subst e; have := hFw j h; omega) (fun j h => .inl h), ((sec_rd (by rw [List.length_set]; exact hxl) hb4 hb5).lt).mono (fun j h => .inr h)⟩
  rcases h with h | h
  · exact ⟨.inl (.inl h), by have := hFw j h; omega⟩
  · by_cases hj : j < w4.heap.size
    · exact ⟨.inl (.inr ⟨h.1, hj⟩), h.2⟩
    · exact ⟨.inr (by omega), h.2⟩
theorem zeros_rd {w : World} {b : Nat} (hb : w.heap[b]? = some (.cells (madeCells (Value.int .u8 0).cells (64 * 1)) 5 (0, 0))) : Rd w (fun _ => True) (.slice (some ⟨b, 0, none⟩) 64 64) (List.replicate 64 (0 : Int)).length (Disk.bytes8 (List.replicate 64 0)) := by
  rw [show madeCells (Value.int .u8 0).cells (64 * 1) = (Disk.bytes8 (List.replicate 64 0)).toArray from (by rw [Nat.mul_one, bytes8_zeros]; exact made_rep 1 64 (.int .u8 0) (by decide))] at hb
  have := (own_blk (ok := fun _ => True) hb (n := 64) (by rw [Disk.bytes8_len, List.length_replicate]) (by decide) (by decide) trivial).rd
  rw [List.length_replicate]
  exact this
theorem open_tuple {w' : World} {g : Nat} {Q : Nat → Prop} {r : Int × Option LogS × St} {v : Value} (h : (r.2.1 = none ∧ v = .tuple #[.pointer none, .int .i64 r.1]) ∨ ∃ (L : LogS) (x : Nat), r.2.1 = some L ∧ v = .tuple #[.pointer (some ⟨x, 0, none⟩), .int .i64 r.1] ∧ LogMem w' x Q g L) : ∃ (pv : Option Addr) (e : Int), v = .tuple #[.pointer pv, .int .i64 e] := by
  rcases h with ⟨_, h⟩ | ⟨L, x, _, h, _⟩
  · exact ⟨_, _, h⟩
  · exact ⟨_, _, h⟩
/-- One more of each. -/
theorem RowsM.push {W w wa wb wc wd we : World} {g : Nat} {lo : Option (Nat × LogS)} {s : St} {F R1 R2 : Nat → Prop} {vF vS vF' vS' : Value} {fr sz : List Int} {x y : Int} (hW : WF W w g lo s F) (h1 : OwnRow w R1 3 1 vF fr.length (ints fr)) (h2 : OwnRow w R2 3 1 vS sz.length (ints sz)) (h3 : ∀ k, R1 k → F k) (h4 : ∀ k, R2 k → F k) (h5 : ∀ k, R1 k → ¬ R2 k)
    (ka : Keeps (fun _ => False) w wa) (ob : OwnRow wb (fun k => R1 k ∨ wa.heap.size ≤ k) 3 1 vF' (fr.length + 1) (ints fr ++ [.int .i64 x])) (kb : Keeps (fun k => vF.ownBlock = some k) wa wb) (kc : Keeps (fun _ => False) wb wc) (kd : Keeps (fun _ => False) wc wd)
    (oe : OwnRow we (fun k => R2 k ∨ wd.heap.size ≤ k) 3 1 vS' (sz.length + 1) (ints sz ++ [.int .i64 y])) (ke : Keeps (fun k => vS.ownBlock = some k) wd we) :
    WF W we g lo s (fun k => F k ∨ (w.heap.size ≤ k ∧ k < we.heap.size)) ∧ RowsM we (fun k => F k ∨ (w.heap.size ≤ k ∧ k < we.heap.size)) vF' vS' (fr ++ [x]) (sz ++ [y]) := by
  have za := ka.size
  have zb := kb.size
  have zc := kc.size
  have zd := kd.size
  have ze := ke.size
  have hF : ∀ k, F k → k < w.heap.size := fun k h => by obtain ⟨_, P, Q, _, _, _, _, hF⟩ := hW; exact (hF k h).2.1
  have kall : Keeps F w we := (((((ka.mono (S' := F) (fun _ _ h => h.elim)).trans kb (fun k _ h => h3 k (h1.2 k h))).trans kc (fun _ _ h => h.elim)).trans kd (fun _ _ h => h.elim)).trans ke (fun k _ h => h4 k (h2.2 k h)))
  refine ⟨hW.grow kall (fun k h => ?_), fun k => (R1 k ∨ wa.heap.size ≤ k) ∧ k < wb.heap.size, fun k => (R2 k ∨ wd.heap.size ≤ k) ∧ k < we.heap.size, ?_, ?_, ?_, ?_, ?_⟩
  · rcases h with h | h
    · exact ⟨.inl h, by have := hF k h; omega⟩
    · exact ⟨.inr h.1, h.2⟩
  · rw [List.length_append, List.length_singleton, ints_snoc]
    refine (((ob.mono (ok' := fun k => (R1 k ∨ wa.heap.size ≤ k) ∧ k < wb.heap.size) (fun k hk h => ⟨h, hk⟩)).kept kc (fun _ _ h => h)).kept kd (fun _ _ h => h)).kept ke (fun k h h' => ?_)
    have hr2 := h2.2 k h'
    rcases h.1 with h | h
    · exact h5 k h hr2
    · have := hF k (h4 k hr2); omega
  · rw [List.length_append, List.length_singleton, ints_snoc]
    exact oe.mono (fun k hk h => ⟨h, hk⟩)
  · rintro k ⟨h | h, h'⟩
    · exact .inl (h3 k h)
    · exact .inr ⟨by omega, by omega⟩
  · rintro k ⟨h | h, h'⟩
    · exact .inl (h4 k h)
    · exact .inr ⟨by omega, h'⟩
  · rintro k ⟨h | h, h'⟩ ⟨h'' | h'', _⟩
    · exact h5 k h h''
    · have := hF k (h3 k h); omega
    · have := hF k (h4 k h''); omega
    · omega
set_option maxHeartbeats 12800000 in
set_option maxRecDepth 100000 in
theorem walHalts_in (W : World) (v : Value) (l : List Do10) (hD : Dos10 W v l) (which pos bits_ : Int) : Calls Try.prog 8 #[v, .int .i64 which, .int .i64 pos, .int .u32 bits_] W (Rets (Yes W)) := by
  have HD := Lib.hid hD
  have HA0 := Lib.hid (show Alive (fresh 300) ⟨[], 0, false⟩ from ⟨(again_start 300 (by decide)).inv, rfl, rfl, fun t h => by cases h⟩)
  have HNew := Lib.hid (dNew_c 300 (by decide) (by decide) W)
  have HB := Lib.hid (flat_fresh 300)
  have HF0 := Lib.hid (show (fresh 300).opn.length ≤ 900000 by simp [fresh])
  have HOE := Lib.hid (openP_fresh 300)
  clear hD
  go_enter Try.func8, Try.ntmps8
  go_wp2_with (first
    | (go_at_call 35; go_loud (refine Rets.use (few10_c (HD.out.kept hW2.1)) ?_); rintro v3 w3 ⟨hk3, m0, A0, c0, ev, rfl, hm0, hm40⟩)
    | (go_at_call 34; go_loud (refine Rets.use (wf_open (F := fun _ => False) (lo := none) ⟨hk1, _, fun _ => False, hd1, fun x L e => (by cases e), fun k h => ⟨h.1, h.2, fun h => h⟩, fun _ h => h.elim, fun _ h => h.elim⟩ HF0.out HB.out HOE.out) ?_); rintro _ w2 ⟨x, rfl, hW2, _⟩)
    | (go_at_call 30; go_loud (refine Rets.use HNew.out ?_); rintro v1 w1 ⟨hk1, g, rfl, hd1⟩))
  have hl : Dos10 W (.slice A0 m0 c0) (l.take m0) := by have h := HD.out; rw [ev] at h; exact h.front m0 hm0
  have hml : (l.take m0).length = m0 := by rw [List.length_take]; omega
  obtain ⟨B, c, e3, hc1, hc2, _, hin⟩ := id hl
  obtain ⟨rfl, _, rfl⟩ := Value.slice.inj e3
  have HIn := Lib.hid hin
  have hcc : m0 ≤ c0 := by omega
  have hml2 := hml.symm
  generalize l.take m0 = m at *
  subst hml2
  have HW := Lib.hid (hW2.kept hk3)
  clear hl hin hW2 hk3 hd1 hk1 HNew HD HB HF0 HOE e3 hc1 hc2 hml ev hm0
  go_loopw [13, 14, 15, 16] (fun fv sv iv q1 wr => ∃ (k : Nat) (s : St) (L : LogS) (fr sz : List Int) (F : Nat → Prop), k ≤ m.length ∧ iv = .int .i64 k ∧ WF W wr g (some (x, L)) s F ∧ RowsM wr F fv sv fr sz ∧ Hid (Alive s L ∧ s.armed = false) ∧ Hid (Marks L.texts fr sz) ∧ L.texts.length ≤ k) (fun _ _ iv _ _ => m.length - (intOf iv).toNat)
  case atStart => exact ⟨0, _, _, [], [], _, Nat.zero_le _, rfl, HW.out, ⟨fun _ => False, fun _ => False, OwnRow.nil _ _ _ _, OwnRow.nil _ _ _ _, fun _ h => h.elim, fun _ h => h.elim, fun _ h => h.elim⟩, Lib.hid ⟨HA0.out, rfl⟩, Lib.hid ⟨rfl, rfl, fun j t h => by simp at h⟩, Nat.le_refl _⟩
  case round =>
    obtain ⟨k, s, L, fr, sz, F, hk, rfl, hW, hRo, HAl, HMa, hLk⟩ := hrel
    have HWr := Lib.hid hW
    obtain ⟨R1, R2, hO1, hO2, hR1, hR2, hR12⟩ := hRo
    obtain ⟨Af, cf, rfl, _⟩ := hO1.slice
    obtain ⟨As, cs, rfl, _⟩ := hO2.slice
    have HO1 := Lib.hid hO1
    have HO2 := Lib.hid hO2
    have hfl : fr.length ≤ k := by rw [HMa.out.1]; exact hLk
    have hsl : sz.length ≤ k := by rw [HMa.out.2.1]; exact hLk
    clear HW hW hO1 hO2
    by_cases hlt : k < m.length
    · obtain ⟨b, o, e, hb, vB, vKd, c0', c1, c2, c3, c4, rB, _, hIB, rK, _, wN⟩ := HIn.out k _ (List.getElem?_eq_getElem hlt)
      cases e
      generalize m[k] = d at *
      have hK := HWr.out.1
      have HCC := Lib.hid (show ∀ w', Keeps (fun _ => False) W w' → ∀ j u, [Value.int .i64 d.kind, .int .i64 d.n, .int .i64 d.long, vB, vKd][j]? = some u → w'.cell? ⟨b, o + k * 5 + j, none⟩ = some u by
        intro w' hk' j u hj
        match j, hj with
        | 0, hj => cases hj; exact hk'.cell c0' (fun h => h)
        | 1, hj => cases hj; exact hk'.cell c1 (fun h => h)
        | 2, hj => cases hj; exact hk'.cell c2 (fun h => h)
        | 3, hj => cases hj; exact hk'.cell c3 (fun h => h)
        | 4, hj => cases hj; exact hk'.cell c4 (fun h => h))
      have HTx := Lib.hid (fun w' (hk' : Keeps (fun _ => False) W w') => text_c (w := w') d vB vKd (rB.kept hk' (fun _ _ h => h)))
      have HTB := Lib.hid (textF_byte hIB)
      have htl := textF_len d
      have HNx := Lib.hid (wf_next HWr.out)
      generalize textF d = tx at *
      clear c0' c1 c2 c3 c4 rB rK hIB wN
      have d0 : wr.cell? ⟨b, o + k * 5, none⟩ = some (.int .i64 d.kind) := HCC.out _ hK 0 _ rfl
      have d1 : wr.cell? ⟨b, o + k * 5 + 1, none⟩ = some (.int .i64 d.n) := HCC.out _ hK 1 _ rfl
      have d2 : wr.cell? ⟨b, o + k * 5 + 2, none⟩ = some (.int .i64 d.long) := HCC.out _ hK 2 _ rfl
      have d3 : wr.cell? ⟨b, o + k * 5 + 3, none⟩ = some vB := HCC.out _ hK 3 _ rfl
      have d4 : wr.cell? ⟨b, o + k * 5 + 4, none⟩ = some vKd := HCC.out _ hK 4 _ rfl
      go_wp2_with (first
        | (go_at_call 38; go_loud (refine Rets.use (HTx.out wr hK) ?_); rintro v3 w3 ⟨hO3, hk3⟩)
        | (go_at_call 36; go_loud (refine Rets.use HNx.out ?_); rintro _ _ ⟨rfl, rfl⟩))
      have z3 := hk3.size
      obtain ⟨A3, c3, rfl, _⟩ := hO3.slice
      have hFw : ∀ j, F j → j < wr.heap.size := fun j h => by obtain ⟨_, P, Q, _, _, _, _, hF⟩ := HWr.out; exact (hF j h).2.1
      have HW3 := Lib.hid (HWr.out.grow (F' := fun j => F j ∨ (wr.heap.size ≤ j ∧ j < w3.heap.size)) (hk3.mono (fun _ _ h => h.elim)) (fun j h => by rcases h with h | h; exact ⟨.inl h, by have := hFw j h; omega⟩; exact ⟨.inr h.1, h.2⟩))
      have hR3 : Rd w3 (fun j => wr.heap.size ≤ j ∧ j < w3.heap.size) (.slice A3 tx.length c3) tx.length (Disk.bytes8 tx) := hO3.rd.lt
      have HAp := Lib.hid (wf_append HW3.out HAl.out.1 (.slice A3 tx.length c3) tx hR3 (fun j h => .inr h) (by omega))
      have hnx : L.next = (laid 1 L.texts).length := HAl.out.1.inv.next
      rcases HAl.out.1.quiet HAl.out.2 HTB.out with ⟨q1, q2, q3, q4⟩ | ⟨q1, q2⟩
      · have HQ2 := Lib.hid (And.intro q2 q3)
        have HQ4 := Lib.hid q4
        have HMn := Lib.hid (HMa.out.push tx)
        rw [← q4] at HMn
        have hLk2 : (appendP s L tx).2.2.texts.length ≤ k + 1 := by rw [q4]; simp; omega
        generalize appendP s L tx = qa at *
        obtain ⟨e, s2, L2⟩ := qa
        simp only at q1 HQ2 HQ4 HMn hLk2 HAp
        subst q1
        rw [hnx]
        clear q2 q3 q4 HMa HAl HNx d0 d1 d2 d3 d4
        go_wp2_with (go_at_call 37; go_loud (refine Rets.use HAp.out ?_); rintro _ wq ⟨rfl, hWq, hkq⟩)
        have hF3 : ∀ j, F j → ¬ ¬ (F j ∨ (wr.heap.size ≤ j ∧ j < w3.heap.size)) := fun j h h' => h' (.inl h)
        have G1 := Lib.hid ((HO1.out.kept hk3 (fun _ _ h => h)).kept hkq (fun j h => hF3 j (hR1 j h)))
        have G2 := Lib.hid ((HO2.out.kept hk3 (fun _ _ h => h)).kept hkq (fun j h => hF3 j (hR2 j h)))
        refine Canon.region [2, 3, 8] [] [] (.seg [0, 1, 4, 5, 6, 7] (.fork 2 (.fork 3 (.loud 8 (.seg [9, 10, 11, 12, 13, 14, 15] .stop)) 8 (.loud 3 (.seg [9, 10, 11, 12, 13, 14, 15] .stop))) 8 (.loud 2 (.loud 3 (.seg [9, 10, 11, 12, 13, 14, 15] .stop))))) (by kernel_rfl) (by kernel_rfl) (by repeat (first | (with_reducible exact Safe.body) | (with_reducible apply Safe.then) | (with_reducible apply Safe.inBlock) | (dsimp +zetaDelta only))) ?_
        simp only [Canon.pick, Canon.wpPlan, List.getElem?_toArray, List.getElem?_cons_zero, List.getElem?_cons_succ]
        have KD : Keeps (fun _ => False) wq wq.drew := (Keeps.refl _ wq).drew
        have HWz := Lib.hid (hWq.kept KD)
        have G1 := Lib.hid (G1.out.kept KD (fun _ _ h => h))
        have G2 := Lib.hid (G2.out.kept KD (fun _ _ h => h))
        have hcf : fr.length ≤ cf := by obtain ⟨_, _, e, h, _⟩ := G1.out.slice; cases e; exact h
        have hcs : sz.length ≤ cs := by obtain ⟨_, _, e, h, _⟩ := G2.out.slice; cases e; exact h
        have hF1 : ∀ j, R1 j → (F j ∨ (wr.heap.size ≤ j ∧ j < w3.heap.size)) := fun j h => .inl (hR1 j h)
        have hF2 : ∀ j, R2 j → (F j ∨ (wr.heap.size ≤ j ∧ j < w3.heap.size)) := fun j h => .inl (hR2 j h)
        clear KD hWq hkq HAp HO1 HO2 hO3 hR3 HW3 hF3 HTB
        generalize wq.drew = wz at *
        obtain ⟨px, hpx⟩ : ∃ px, (laid 1 L.texts).length = px := ⟨_, rfl⟩
        have HPX := Lib.hid hpx
        rw [hpx] at HMn ⊢
        clear hpx
        have hKz := HWz.out.1
        go_wp2
        refine ⟨?_, ?_⟩
        · go_wp2_with ((with_reducible refine at_ 57 rfl ?_); go_must (refine step_lit rfl 69 _ 1 rfl [.int .i64 px] rfl rfl (by decide) 3 _ 1 Try.underlying69 row2_int10 (by decide) (by decide) (by intro v hv; rw [List.mem_singleton] at hv; subst hv; rfl) ?_); intro wa hba hka hsa)
          have hKa := hKz.trans hka (fun _ _ h => h)
          clear hsa
          refine ⟨fun p hp => (by cases hp), ?_⟩
          refine ⟨?_, ?_⟩
          · go_wp2_with ((with_reducible refine at_ 58 rfl ?_); go_must (refine step_append_rd (ok2 := fun q => wz.heap.size ≤ q) rfl _ _ _ rfl 3 _ 1 8 Try.underlying69 row_int10 rfl (by decide) (.slice Af fr.length cf) fr.length (ints fr) rfl (G1.out.kept hka (fun _ _ h => h)) _ 1 [.int .i64 px] rfl (lit_rd rfl hba (Nat.le_refl _)) rfl (by intro y hy; rw [List.mem_singleton] at hy; subst hy; rfl) (by simp only [maxLen]; omega) (by omega) ?_); intro vF wb hOb hkb)
            have hKb := hKa.trans hkb (fun j hj h => by have := G1.out.2 j h; obtain ⟨_, P, Q, _, _, _, _, hF⟩ := HWz.out; have := (hF j (hF1 j this)).1; omega)
            refine ⟨fun p hp => (by cases hp), ?_⟩
            go_wp2_with ((with_reducible refine at_ 63 rfl ?_); go_must (refine step_load_cells rfl 72 _ rfl b (o + k * 5) [.int .i64 d.kind, .int .i64 d.n, .int .i64 d.long, vB, vKd] _ rfl (HCC.out _ hKb) Try.underlying72 rfl info_do10 ?_))
            refine ⟨fun p hp => (by cases hp), ?_⟩
            go_wp2_with (first
              | ((with_reducible refine at_ 68 rfl ?_); go_must (refine step_append_rd (ok2 := fun q => wc.heap.size ≤ q) rfl _ _ _ rfl 3 _ 1 8 Try.underlying69 row_int10 rfl (by decide) (.slice As sz.length cs) sz.length (ints sz) rfl (((G2.out.kept hka (fun _ _ h => h)).kept hkb (fun j h h' => hR12 j (G1.out.2 j h') h)).kept hkc (fun _ _ h => h) |>.kept hkd (fun _ _ h => h)) _ 1 [.int .i64 ((tx.length : Int) + 20)] rfl (lit_rd rfl hbd (Nat.le_refl _)) rfl (by intro y hy; rw [List.mem_singleton] at hy; subst hy; rfl) (by simp only [maxLen]; omega) (by omega) ?_); intro vS we hOe hke)
              | ((with_reducible refine at_ 67 rfl ?_); go_must (refine step_lit rfl 69 _ 1 rfl [.int .i64 ((tx.length : Int) + 20)] rfl rfl (by decide) 3 _ 1 Try.underlying69 row2_int10 (by decide) (by decide) (by intro v hv; rw [List.mem_singleton] at hv; subst hv; rfl) ?_); intro wd hbd hkd hsd)
              | (go_at_call 38; go_loud (refine Rets.use (HTx.out wb hKb) ?_); rintro vt wc ⟨hOt, hkc⟩; obtain ⟨At, ct, rfl, _⟩ := hOt.slice))
            refine ⟨by rfl, trivial, ?_⟩
            go_wp2
            go_roundw
            case rel =>
              obtain ⟨hW5, hR5⟩ := RowsM.push HWz.out G1.out G2.out hF1 hF2 hR12 hka hOb hkb hkc hkd hOe hke
              exact ⟨k + 1, _, _, _, _, _, hlt, by go_num, hW5, hR5, HQ2, by rw [← HPX.out] at HMn ⊢; exact HMn, hLk2⟩
            case measure => simp [intOf]; omega
          · go_wp2_with ((with_reducible refine at_ 63 rfl ?_); go_must (refine step_load_cells rfl 72 _ rfl b (o + k * 5) [.int .i64 d.kind, .int .i64 d.n, .int .i64 d.long, vB, vKd] _ rfl (HCC.out _ hKa) Try.underlying72 rfl info_do10 ?_))
            refine ⟨fun p hp => (by cases hp), ?_⟩
            go_wp2_with ((with_reducible refine at_ 58 rfl ?_); go_must (refine step_append_rd (ok2 := fun q => wz.heap.size ≤ q) rfl _ _ _ rfl 3 _ 1 8 Try.underlying69 row_int10 rfl (by decide) (.slice Af fr.length cf) fr.length (ints fr) rfl (G1.out.kept hka (fun _ _ h => h)) _ 1 [.int .i64 px] rfl (lit_rd rfl hba (Nat.le_refl _)) rfl (by intro y hy; rw [List.mem_singleton] at hy; subst hy; rfl) (by simp only [maxLen]; omega) (by omega) ?_); intro vF wb hOb hkb)
            have hKb := hKa.trans hkb (fun j hj h => by have := G1.out.2 j h; obtain ⟨_, P, Q, _, _, _, _, hF⟩ := HWz.out; have := (hF j (hF1 j this)).1; omega)
            refine ⟨fun p hp => (by cases hp), ?_⟩
            go_wp2_with (first
              | ((with_reducible refine at_ 68 rfl ?_); go_must (refine step_append_rd (ok2 := fun q => wc.heap.size ≤ q) rfl _ _ _ rfl 3 _ 1 8 Try.underlying69 row_int10 rfl (by decide) (.slice As sz.length cs) sz.length (ints sz) rfl (((G2.out.kept hka (fun _ _ h => h)).kept hkb (fun j h h' => hR12 j (G1.out.2 j h') h)).kept hkc (fun _ _ h => h) |>.kept hkd (fun _ _ h => h)) _ 1 [.int .i64 ((tx.length : Int) + 20)] rfl (lit_rd rfl hbd (Nat.le_refl _)) rfl (by intro y hy; rw [List.mem_singleton] at hy; subst hy; rfl) (by simp only [maxLen]; omega) (by omega) ?_); intro vS we hOe hke)
              | ((with_reducible refine at_ 67 rfl ?_); go_must (refine step_lit rfl 69 _ 1 rfl [.int .i64 ((tx.length : Int) + 20)] rfl rfl (by decide) 3 _ 1 Try.underlying69 row2_int10 (by decide) (by decide) (by intro v hv; rw [List.mem_singleton] at hv; subst hv; rfl) ?_); intro wd hbd hkd hsd)
              | (go_at_call 38; go_loud (refine Rets.use (HTx.out wb hKb) ?_); rintro vt wc ⟨hOt, hkc⟩; obtain ⟨At, ct, rfl, _⟩ := hOt.slice))
            refine ⟨by rfl, trivial, ?_⟩
            go_wp2
            go_roundw
            case rel =>
              obtain ⟨hW5, hR5⟩ := RowsM.push HWz.out G1.out G2.out hF1 hF2 hR12 hka hOb hkb hkc hkd hOe hke
              exact ⟨k + 1, _, _, _, _, _, hlt, by go_num, hW5, hR5, HQ2, by rw [← HPX.out] at HMn ⊢; exact HMn, hLk2⟩
            case measure => simp [intOf]; omega
        · go_wp2_with ((with_reducible refine at_ 63 rfl ?_); go_must (refine step_load_cells rfl 72 _ rfl b (o + k * 5) [.int .i64 d.kind, .int .i64 d.n, .int .i64 d.long, vB, vKd] _ rfl (HCC.out _ hKz) Try.underlying72 rfl info_do10 ?_))
          refine ⟨fun p hp => (by cases hp), ?_⟩
          go_wp2_with ((with_reducible refine at_ 57 rfl ?_); go_must (refine step_lit rfl 69 _ 1 rfl [.int .i64 px] rfl rfl (by decide) 3 _ 1 Try.underlying69 row2_int10 (by decide) (by decide) (by intro v hv; rw [List.mem_singleton] at hv; subst hv; rfl) ?_); intro wa hba hka hsa)
          have hKa := hKz.trans hka (fun _ _ h => h)
          clear hsa
          refine ⟨fun p hp => (by cases hp), ?_⟩
          go_wp2_with ((with_reducible refine at_ 58 rfl ?_); go_must (refine step_append_rd (ok2 := fun q => wz.heap.size ≤ q) rfl _ _ _ rfl 3 _ 1 8 Try.underlying69 row_int10 rfl (by decide) (.slice Af fr.length cf) fr.length (ints fr) rfl (G1.out.kept hka (fun _ _ h => h)) _ 1 [.int .i64 px] rfl (lit_rd rfl hba (Nat.le_refl _)) rfl (by intro y hy; rw [List.mem_singleton] at hy; subst hy; rfl) (by simp only [maxLen]; omega) (by omega) ?_); intro vF wb hOb hkb)
          have hKb := hKa.trans hkb (fun j hj h => by have := G1.out.2 j h; obtain ⟨_, P, Q, _, _, _, _, hF⟩ := HWz.out; have := (hF j (hF1 j this)).1; omega)
          refine ⟨fun p hp => (by cases hp), ?_⟩
          go_wp2_with (first
            | ((with_reducible refine at_ 68 rfl ?_); go_must (refine step_append_rd (ok2 := fun q => wc.heap.size ≤ q) rfl _ _ _ rfl 3 _ 1 8 Try.underlying69 row_int10 rfl (by decide) (.slice As sz.length cs) sz.length (ints sz) rfl (((G2.out.kept hka (fun _ _ h => h)).kept hkb (fun j h h' => hR12 j (G1.out.2 j h') h)).kept hkc (fun _ _ h => h) |>.kept hkd (fun _ _ h => h)) _ 1 [.int .i64 ((tx.length : Int) + 20)] rfl (lit_rd rfl hbd (Nat.le_refl _)) rfl (by intro y hy; rw [List.mem_singleton] at hy; subst hy; rfl) (by simp only [maxLen]; omega) (by omega) ?_); intro vS we hOe hke)
            | ((with_reducible refine at_ 67 rfl ?_); go_must (refine step_lit rfl 69 _ 1 rfl [.int .i64 ((tx.length : Int) + 20)] rfl rfl (by decide) 3 _ 1 Try.underlying69 row2_int10 (by decide) (by decide) (by intro v hv; rw [List.mem_singleton] at hv; subst hv; rfl) ?_); intro wd hbd hkd hsd)
            | (go_at_call 38; go_loud (refine Rets.use (HTx.out wb hKb) ?_); rintro vt wc ⟨hOt, hkc⟩; obtain ⟨At, ct, rfl, _⟩ := hOt.slice))
          refine ⟨by rfl, trivial, ?_⟩
          go_wp2
          go_roundw
          case rel =>
            obtain ⟨hW5, hR5⟩ := RowsM.push HWz.out G1.out G2.out hF1 hF2 hR12 hka hOb hkb hkc hkd hOe hke
            exact ⟨k + 1, _, _, _, _, _, hlt, by go_num, hW5, hR5, HQ2, by rw [← HPX.out] at HMn ⊢; exact HMn, hLk2⟩
          case measure => simp [intOf]; omega
      · generalize appendP s L tx = qa at *
        obtain ⟨e, q⟩ := qa
        simp only at q1 q2 HAp
        subst q2
        have HOq := Lib.hid (fun (wq : World) (hkq : Keeps (fun j => ¬ (F j ∨ (wr.heap.size ≤ j ∧ j < w3.heap.size))) w3 wq) => (show RowsM wq (fun j => F j ∨ (wr.heap.size ≤ j ∧ j < w3.heap.size)) (.slice Af fr.length cf) (.slice As sz.length cs) fr sz from RowsM.kept (F := F) ⟨R1, R2, HO1.out.kept hk3 (fun _ _ h => h), HO2.out.kept hk3 (fun _ _ h => h), hR1, hR2, hR12⟩ hkq (fun j h h' => h' (.inl h)) (fun j h => .inl h)))
        rcases q1 with rfl | rfl
        · go_wp2_with (go_at_call 37; go_loud (refine Rets.use HAp.out ?_); rintro _ wq ⟨rfl, hWq, hkq⟩)
          go_roundw
          case rel => exact ⟨k + 1, _, _, fr, sz, _, hlt, by go_num, hWq, HOq.out _ hkq, HAl, HMa, by omega⟩
          case measure => simp [intOf]; omega
        · go_wp2_with (go_at_call 37; go_loud (refine Rets.use HAp.out ?_); rintro _ wq ⟨rfl, hWq, hkq⟩)
          go_roundw
          case rel => exact ⟨k + 1, _, _, fr, sz, _, hlt, by go_num, hWq, HOq.out _ hkq, HAl, HMa, by omega⟩
          case measure => simp [intOf]; omega
    · have hkm : k ≤ m.length := hk
      have hK := HWr.out.1
      by_cases he : fr.length = 0
      · have hb : ((fr.length : Int) == 0) = true := by rw [he]; rfl
        clear he
        go_wp2_with (go_at_call 39; go_loud (refine Rets.use (lives10_c _) ?_); rintro v3 w3 ⟨rfl, hk3⟩)
        go_ret
        exact ⟨rfl, hK.trans hk3 (fun _ _ h => h)⟩
      · have hb : ((fr.length : Int) == 0) = false := beq_eq_false_iff_ne.2 (by omega)
        obtain ⟨wi, hwi, hwl⟩ := least_mid which fr.length (by omega)
        have hwt : wi < L.texts.length := by rw [← HMa.out.1]; exact hwl
        have hws : wi < sz.length := by rw [HMa.out.2.1]; exact hwt
        obtain ⟨t, ht⟩ : ∃ t, L.texts[wi]? = some t := ⟨_, List.getElem?_eq_getElem hwt⟩
        obtain ⟨f1, f2⟩ := HMa.out.2.2 wi t ht
        obtain ⟨F0, hF0⟩ : ∃ F0, (laid 1 (L.texts.take wi)).length = F0 := ⟨_, rfl⟩
        rw [hF0] at f1
        obtain ⟨r1, r2⟩ := frame_room HAl.out.1 ht
        rw [hF0] at r1
        have hsm := HAl.out.1.inv.most
        obtain ⟨a, hai, hal⟩ := least_mid pos (8 * (t.length + 20)) (by omega)
        have HL1 := Lib.hid hwi
        have HL2 := Lib.hid (show least pos 0 (8 * ((t.length : Int) + 20) - 1) = a by rw [← hai]; congr 1)
        have HT := Lib.hid ht
        have HF0 := Lib.hid hF0
        have HF1 := Lib.hid f1
        have HF2 := Lib.hid f2
        have HSt := Lib.hid (Half.start HAl.out.1 HAl.out.2 (512 * F0 + a) (512 * F0 + 8 * (t.length + 20)))
        generalize htl : t.length = tl at *
        have HTL := Lib.hid htl
        clear htl
        obtain ⟨Bf, cpf, -, e1, -, -, hcf, -, -, -⟩ := HO1.out.form (by omega)
        cases e1
        obtain ⟨Bs, cps, -, e2, -, -, hcs, -, -, -⟩ := HO2.out.form (by omega)
        cases e2
        have hRM : RowsM wr F (.slice (some ⟨Bf, 0, none⟩) fr.length cf) (.slice (some ⟨Bs, 0, none⟩) sz.length cs) fr sz := ⟨R1, R2, HO1.out, HO2.out, hR1, hR2, hR12⟩
        have HRM := Lib.hid hRM
        have c1 := hRM.cell1 f1
        have c2 := hRM.cell2 f2
        clear hwi hai ht hF0 f1 f2 hRM HMa HO1 HO2 he
        go_wp2_with (go_at_call 22; go_loud (refine Rets.use (least_c _ _ _ _) ?_); rintro _ _ ⟨rfl, rfl⟩; first | rw [HL1.out] | rw [HL2.out])
        clear c1 c2 HL1 HL2
        go_loopw [17, 18, 19, 20, 21] (fun tv iv _ _ _ wq => ∃ (i : Nat) (s' : St) (F : Nat → Prop) (tb : Bool), i ≤ 32 ∧ iv = .int .i64 i ∧ tv = .bool tb ∧ WF W wq g (some (x, L)) s' F ∧ RowsM wq F (.slice (some ⟨Bf, 0, none⟩) fr.length cf) (.slice (some ⟨Bs, 0, none⟩) sz.length cs) fr sz ∧ Hid (Half s s' (512 * F0 + a) (512 * F0 + 8 * (tl + 20)) i tb)) (fun _ iv _ _ _ _ => 32 - (intOf iv).toNat)
        case atStart => exact ⟨0, s, F, false, by omega, rfl, rfl, HWr.out, HRM.out, HSt⟩
        case round =>
          obtain ⟨i, s2, F2, tb, hi, rfl, rfl, hW2, hRM2, HH⟩ := hrel
          have HWq := Lib.hid hW2
          have HRq := Lib.hid hRM2
          have c1 := hRM2.cell1 HF1.out
          have c2 := hRM2.cell2 HF2.out
          clear hW2 hRM2
          by_cases hi32 : i < 32
          · by_cases hal2 : a + i < 8 * (tl + 20)
            · obtain ⟨xs, y, hx, hxl, hy, s3, hwr, hh3⟩ := HH.out.turn2 hal2 r1
              have HRd := wf_read HWq.out HH.out.off hx hxl
              rw [show ((F0 + (a + i) / 512 : Nat) : Int) = (F0 : Int) + ((a : Int) + i) / 512 by omega] at HRd
              have HRd := Lib.hid HRd
              have HWt := Lib.hid hwr
              have HH3 := Lib.hid hh3
              have HXl := Lib.hid hxl
              have HOp := Lib.hid (show s2.opn.length ≤ 1000000 by have := HH.out.opn; omega)
              clear hx hwr hh3 hxl
              go_wp2_with (first
                | (go_at_call 25; go_loud (refine Rets.use (wf_write hW5 HOp.out _ _ _ hr5 (fun _ h => h) (by rw [List.length_set, HXl.out]; decide)) ?_); rintro _ w6 ⟨rfl, hW6, hk6⟩)
                | ((with_reducible refine at_store 5 (.tmp 143) (.tmp 142) rfl ?_); go_must (refine step_store1 rfl _ _ _ rfl b ((a + i) / 8 % 64) (.int .u8 (bits .xor .u8 y ((2 : Int) ^ ((a + i) % 8) % 256))) _ _ rfl rfl rfl hc4 (by rw [Disk.bytes8_len, HXl.out]; omega) info_u8h ?_); intro w5 hb5 hk5 hs5; obtain ⟨F5, hW5, hR5, hr5⟩ := half_store HWq.out HRq.out hk4 hb4 hc4 HXl.out hb5 hk5)
                | (go_at_call 29; go_loud (refine Rets.use HRd.out ?_); rintro _ w4 ⟨hk4, b, hb4, rfl, hc4⟩; have hcl := cells8_at hc4 hy))
              · rw [HWt.out] at hW6
                go_roundw
                case rel => exact ⟨i + 1, s3, F5, true, by omega, by go_num, rfl, hW6, hR5.kept hk6 (fun j h h' => h' h) (fun _ h => h), HH3⟩
                case measure => simp [intOf]; omega
              · go_roundw
                case rel => exact ⟨i + 1, s2, F2, tb, by omega, by go_num, rfl, HWq.out, HRq.out, Lib.hid HH.out.pass⟩
                case measure => simp [intOf]; omega
            · obtain ⟨s3, s4, y1, y2, y3, y4, y5, y6, y7, y8⟩ := HH.out.sync
              obtain ⟨z, hz⟩ : ∃ z, s2.now[F0]? = some z := ⟨_, List.getElem?_eq_getElem (by rw [HH.out.len]; omega)⟩
              have hzl := HH.out.n64 z (List.mem_of_getElem? hz)
              have HEnd := Lib.hid (show (tb = true → z = List.replicate 64 0 ∨ openP s4 = (13, none, s4)) ∧ (tb = false → openP s4 = (0, some ⟨L.texts, L.next, false⟩, s4)) by
                have htl := HTL.out
                subst htl
                obtain ⟨h1, h2⟩ := HH.out.ends HAl.out.1 HT.out HF0.out hi y6 y7
                exact ⟨fun e => by obtain ⟨z', hz', h⟩ := h1 e; rw [hz] at hz'; cases hz'; exact h, h2⟩)
              have HSy := Lib.hid y1
              have HOp := Lib.hid (show s2.opn.length ≤ 1000000 by have := HH.out.opn; omega)
              have HZ3 := Lib.hid (show s3.now[F0]? = some z by rw [y2]; exact hz)
              have HZl := Lib.hid hzl
              have HO3 := Lib.hid y3
              have HAr := Lib.hid y5
              have HO4 := Lib.hid y7
              have HN4 := Lib.hid (show s4.opn.length ≤ 900000 by rw [y8]; decide)
              have HB4 := Lib.hid (show IsB (flatS s4.now) by rw [y6]; exact HH.out.byte)
              have HTl := Lib.hid (show L.texts.length ≤ 4096 by omega)
              have HTs := Lib.hid (show ∀ t ∈ L.texts, t.length ≤ 1000000 from fun t ht => by have := HAl.out.1.inv.small t ht; omega)
              clear y1 y2 y3 y4 y5 y6 y7 y8 hz hzl HH HT HF0 HTL HAl
              cases tb with
              | false =>
                have HOpn := Lib.hid (HEnd.out.2 rfl)
                clear HEnd
                go_wp2_with (first
                  | (go_at_call 39; go_loud (refine Rets.use (lives10_c _) ?_); rintro v12 w12 ⟨rfl, hk12⟩)
                  | (go_at_call 40; (have hz := hk10); clear hz; go_loud (refine Rets.use (same07_self (RowsRd.kept (S := fun _ => False) hr9.rd hk10 (fun _ _ h => h)) hr10.rd (by have := HTl.out; omega) HTs.out) ?_); rintro _ w11 ⟨rfl, hk11⟩)
                  | (go_at_call 41; (have hz := hk9); clear hz; go_loud (refine Rets.use (texts_c (HM8.out.kept hk9 (fun _ _ h => h)) HTl.out HTs.out) ?_); rintro v10 w10 ⟨hk10, hr10⟩)
                  | (go_at_call 41; (have hz := HM82); clear hz; go_loud (refine Rets.use (texts_c HM82.out HTl.out HTs.out) ?_); rintro v9 w9 ⟨hk9, hr9⟩)
                  | (go_at_call 34; go_loud (refine Rets.use (wopen_c HD7.out HN4.out HB4.out) ?_); rintro v8 w8 ⟨hk8, Q2, hQ2, hd8, hv8⟩; rw [HOpn.out] at hd8 hv8; obtain ⟨L2, x2, e2, rfl, hm82⟩ := hv8.resolve_left (fun h => by cases h.1); (have e2' := Option.some.inj e2); subst e2'; have HM82 := Lib.hid hm82; have HM8 := Lib.hid (HM7.out.kept hk8 (fun k h h' => (HP7.out k h').2.2 h)))
                  | (go_at_call 27; go_loud (refine Rets.use (wf_arm HW6.out 0 (by decide)) ?_); rw [HAr.out]; rintro _ w7 ⟨rfl, hW7, hk7⟩; obtain ⟨hK7, P7, Q7, hd7, hm7, hP7, hQ7, hF7⟩ := hW7; have HK7 := Lib.hid hK7; have HD7 := Lib.hid hd7; have HM7 := Lib.hid (hm7 x L rfl); have HP7 := Lib.hid hP7)
                  | (go_at_call 26; go_loud (refine Rets.use (same_c _ _ z (List.replicate 64 0) ((sec_rd HZl.out (Nat.zero_le _) hc4).kept hk5 (fun _ _ h => h)) hr5 (by rw [HZl.out]; decide)) ?_); rintro _ w6 ⟨rfl, hk6⟩; (try rw [HBz.out]); have HW6 := Lib.hid (((hW3.kept hk4).kept hk5).kept hk6))
                  | ((with_reducible refine at_ 160 rfl ?_); go_must (refine step_make rfl _ _ _ rfl 5 _ 1 1 Try.underlying38 row_byte _ _ 64 rfl rfl (by decide) (by decide) ?_); intro w5 hb5 hk5; have hr5 := zeros_rd hb5)
                  | (go_at_call 29; go_loud (refine Rets.use (wf_read hW3 HO3.out HZ3.out HZl.out) ?_); rintro _ w4 ⟨hk4, b4, hb4, rfl, hc4⟩)
                  | (go_at_call 14; go_loud (refine Rets.use (wf_sync HWq.out HOp.out) ?_); rintro _ w3 ⟨rfl, hW3, hk3⟩; rw [HSy.out] at hW3; have c3 := (HRq.out.kept hk3 (fun j h h' => h' h) (fun _ h => h)).cell1 HF1.out))
                go_ret
                exact ⟨rfl, ((((HK7.out.trans hk8 (fun k hk h => by have := (HP7.out k h).1; omega)).trans hk9 (fun _ _ h => h)).trans hk10 (fun _ _ h => h)).trans hk11 (fun _ _ h => h)).trans hk12 (fun _ _ h => h)⟩
              | true =>
                by_cases hzz : z = List.replicate 64 0
                · have HBz := Lib.hid (show decide (z = List.replicate 64 0) = true from decide_eq_true hzz)
                  clear hzz HEnd
                  go_wp2_with (first
                    | (go_at_call 39; go_loud (refine Rets.use (lives10_c _) ?_); rintro v12 w12 ⟨rfl, hk12⟩)
                    | (go_at_call 34; go_loud (refine Rets.use (wopen_c HD7.out HN4.out HB4.out) ?_); rintro v8 w8 ⟨hk8, Q2, hQ2, hd8, hv8⟩; obtain ⟨pv, ev, rfl⟩ := open_tuple hv8)
                    | (go_at_call 27; go_loud (refine Rets.use (wf_arm HW6.out 0 (by decide)) ?_); rw [HAr.out]; rintro _ w7 ⟨rfl, hW7, hk7⟩; obtain ⟨hK7, P7, Q7, hd7, hm7, hP7, hQ7, hF7⟩ := hW7; have HK7 := Lib.hid hK7; have HD7 := Lib.hid hd7; have HM7 := Lib.hid (hm7 x L rfl); have HP7 := Lib.hid hP7)
                    | (go_at_call 26; go_loud (refine Rets.use (same_c _ _ z (List.replicate 64 0) ((sec_rd HZl.out (Nat.zero_le _) hc4).kept hk5 (fun _ _ h => h)) hr5 (by rw [HZl.out]; decide)) ?_); rintro _ w6 ⟨rfl, hk6⟩; (try rw [HBz.out]); have HW6 := Lib.hid (((hW3.kept hk4).kept hk5).kept hk6))
                    | ((with_reducible refine at_ 160 rfl ?_); go_must (refine step_make rfl _ _ _ rfl 5 _ 1 1 Try.underlying38 row_byte _ _ 64 rfl rfl (by decide) (by decide) ?_); intro w5 hb5 hk5; have hr5 := zeros_rd hb5)
                    | (go_at_call 29; go_loud (refine Rets.use (wf_read hW3 HO3.out HZ3.out HZl.out) ?_); rintro _ w4 ⟨hk4, b4, hb4, rfl, hc4⟩)
                    | (go_at_call 14; go_loud (refine Rets.use (wf_sync HWq.out HOp.out) ?_); rintro _ w3 ⟨rfl, hW3, hk3⟩; rw [HSy.out] at hW3; have c3 := (HRq.out.kept hk3 (fun j h h' => h' h) (fun _ h => h)).cell1 HF1.out))
                  go_ret
                  exact ⟨rfl, (HK7.out.trans hk8 (fun k hk h => by have := (HP7.out k h).1; omega)).trans hk12 (fun _ _ h => h)⟩
                · have HBz := Lib.hid (show decide (z = List.replicate 64 0) = false from decide_eq_false hzz)
                  have HOpn := Lib.hid ((HEnd.out.1 rfl).resolve_left hzz)
                  clear hzz HEnd
                  go_wp2_with (first
                    | (go_at_call 39; go_loud (refine Rets.use (lives10_c _) ?_); rintro v12 w12 ⟨rfl, hk12⟩)
                    | (go_at_call 28; go_loud (refine Rets.use (dOff_c HD8.out) ?_); rintro _ _ ⟨rfl, rfl⟩; rw [HO4.out])
                    | (go_at_call 34; go_loud (refine Rets.use (wopen_c HD7.out HN4.out HB4.out) ?_); rintro v8 w8 ⟨hk8, Q2, hQ2, hd8, hv8⟩; rw [HOpn.out] at hd8 hv8; obtain ⟨_, rfl⟩ := hv8.resolve_right (fun h => by obtain ⟨_, _, h, _⟩ := h; cases h); have HD8 := Lib.hid hd8)
                    | (go_at_call 27; go_loud (refine Rets.use (wf_arm HW6.out 0 (by decide)) ?_); rw [HAr.out]; rintro _ w7 ⟨rfl, hW7, hk7⟩; obtain ⟨hK7, P7, Q7, hd7, hm7, hP7, hQ7, hF7⟩ := hW7; have HK7 := Lib.hid hK7; have HD7 := Lib.hid hd7; have HM7 := Lib.hid (hm7 x L rfl); have HP7 := Lib.hid hP7)
                    | (go_at_call 26; go_loud (refine Rets.use (same_c _ _ z (List.replicate 64 0) ((sec_rd HZl.out (Nat.zero_le _) hc4).kept hk5 (fun _ _ h => h)) hr5 (by rw [HZl.out]; decide)) ?_); rintro _ w6 ⟨rfl, hk6⟩; (try rw [HBz.out]); have HW6 := Lib.hid (((hW3.kept hk4).kept hk5).kept hk6))
                    | ((with_reducible refine at_ 160 rfl ?_); go_must (refine step_make rfl _ _ _ rfl 5 _ 1 1 Try.underlying38 row_byte _ _ 64 rfl rfl (by decide) (by decide) ?_); intro w5 hb5 hk5; have hr5 := zeros_rd hb5)
                    | (go_at_call 29; go_loud (refine Rets.use (wf_read hW3 HO3.out HZ3.out HZl.out) ?_); rintro _ w4 ⟨hk4, b4, hb4, rfl, hc4⟩)
                    | (go_at_call 14; go_loud (refine Rets.use (wf_sync HWq.out HOp.out) ?_); rintro _ w3 ⟨rfl, hW3, hk3⟩; rw [HSy.out] at hW3; have c3 := (HRq.out.kept hk3 (fun j h h' => h' h) (fun _ h => h)).cell1 HF1.out))
                  go_ret
                  exact ⟨rfl, (HK7.out.trans hk8 (fun k hk h => by have := (HP7.out k h).1; omega)).trans hk12 (fun _ _ h => h)⟩
          · obtain ⟨s3, s4, y1, y2, y3, y4, y5, y6, y7, y8⟩ := HH.out.sync
            obtain ⟨z, hz⟩ : ∃ z, s2.now[F0]? = some z := ⟨_, List.getElem?_eq_getElem (by rw [HH.out.len]; omega)⟩
            have hzl := HH.out.n64 z (List.mem_of_getElem? hz)
            have HEnd := Lib.hid (show (tb = true → z = List.replicate 64 0 ∨ openP s4 = (13, none, s4)) ∧ (tb = false → openP s4 = (0, some ⟨L.texts, L.next, false⟩, s4)) by
              have htl := HTL.out
              subst htl
              obtain ⟨h1, h2⟩ := HH.out.ends HAl.out.1 HT.out HF0.out hi y6 y7
              exact ⟨fun e => by obtain ⟨z', hz', h⟩ := h1 e; rw [hz] at hz'; cases hz'; exact h, h2⟩)
            have HSy := Lib.hid y1
            have HOp := Lib.hid (show s2.opn.length ≤ 1000000 by have := HH.out.opn; omega)
            have HZ3 := Lib.hid (show s3.now[F0]? = some z by rw [y2]; exact hz)
            have HZl := Lib.hid hzl
            have HO3 := Lib.hid y3
            have HAr := Lib.hid y5
            have HO4 := Lib.hid y7
            have HN4 := Lib.hid (show s4.opn.length ≤ 900000 by rw [y8]; decide)
            have HB4 := Lib.hid (show IsB (flatS s4.now) by rw [y6]; exact HH.out.byte)
            have HTl := Lib.hid (show L.texts.length ≤ 4096 by omega)
            have HTs := Lib.hid (show ∀ t ∈ L.texts, t.length ≤ 1000000 from fun t ht => by have := HAl.out.1.inv.small t ht; omega)
            clear y1 y2 y3 y4 y5 y6 y7 y8 hz hzl HH HT HF0 HTL HAl
            cases tb with
            | false =>
              have HOpn := Lib.hid (HEnd.out.2 rfl)
              clear HEnd
              go_wp2_with (first
                | (go_at_call 39; go_loud (refine Rets.use (lives10_c _) ?_); rintro v12 w12 ⟨rfl, hk12⟩)
                | (go_at_call 40; (have hz := hk10); clear hz; go_loud (refine Rets.use (same07_self (RowsRd.kept (S := fun _ => False) hr9.rd hk10 (fun _ _ h => h)) hr10.rd (by have := HTl.out; omega) HTs.out) ?_); rintro _ w11 ⟨rfl, hk11⟩)
                | (go_at_call 41; (have hz := hk9); clear hz; go_loud (refine Rets.use (texts_c (HM8.out.kept hk9 (fun _ _ h => h)) HTl.out HTs.out) ?_); rintro v10 w10 ⟨hk10, hr10⟩)
                | (go_at_call 41; (have hz := HM82); clear hz; go_loud (refine Rets.use (texts_c HM82.out HTl.out HTs.out) ?_); rintro v9 w9 ⟨hk9, hr9⟩)
                | (go_at_call 34; go_loud (refine Rets.use (wopen_c HD7.out HN4.out HB4.out) ?_); rintro v8 w8 ⟨hk8, Q2, hQ2, hd8, hv8⟩; rw [HOpn.out] at hd8 hv8; obtain ⟨L2, x2, e2, rfl, hm82⟩ := hv8.resolve_left (fun h => by cases h.1); (have e2' := Option.some.inj e2); subst e2'; have HM82 := Lib.hid hm82; have HM8 := Lib.hid (HM7.out.kept hk8 (fun k h h' => (HP7.out k h').2.2 h)))
                | (go_at_call 27; go_loud (refine Rets.use (wf_arm HW6.out 0 (by decide)) ?_); rw [HAr.out]; rintro _ w7 ⟨rfl, hW7, hk7⟩; obtain ⟨hK7, P7, Q7, hd7, hm7, hP7, hQ7, hF7⟩ := hW7; have HK7 := Lib.hid hK7; have HD7 := Lib.hid hd7; have HM7 := Lib.hid (hm7 x L rfl); have HP7 := Lib.hid hP7)
                | (go_at_call 26; go_loud (refine Rets.use (same_c _ _ z (List.replicate 64 0) ((sec_rd HZl.out (Nat.zero_le _) hc4).kept hk5 (fun _ _ h => h)) hr5 (by rw [HZl.out]; decide)) ?_); rintro _ w6 ⟨rfl, hk6⟩; (try rw [HBz.out]); have HW6 := Lib.hid (((hW3.kept hk4).kept hk5).kept hk6))
                | ((with_reducible refine at_ 160 rfl ?_); go_must (refine step_make rfl _ _ _ rfl 5 _ 1 1 Try.underlying38 row_byte _ _ 64 rfl rfl (by decide) (by decide) ?_); intro w5 hb5 hk5; have hr5 := zeros_rd hb5)
                | (go_at_call 29; go_loud (refine Rets.use (wf_read hW3 HO3.out HZ3.out HZl.out) ?_); rintro _ w4 ⟨hk4, b4, hb4, rfl, hc4⟩)
                | (go_at_call 14; go_loud (refine Rets.use (wf_sync HWq.out HOp.out) ?_); rintro _ w3 ⟨rfl, hW3, hk3⟩; rw [HSy.out] at hW3; have c3 := (HRq.out.kept hk3 (fun j h h' => h' h) (fun _ h => h)).cell1 HF1.out))
              go_ret
              exact ⟨rfl, ((((HK7.out.trans hk8 (fun k hk h => by have := (HP7.out k h).1; omega)).trans hk9 (fun _ _ h => h)).trans hk10 (fun _ _ h => h)).trans hk11 (fun _ _ h => h)).trans hk12 (fun _ _ h => h)⟩
            | true =>
              by_cases hzz : z = List.replicate 64 0
              · have HBz := Lib.hid (show decide (z = List.replicate 64 0) = true from decide_eq_true hzz)
                clear hzz HEnd
                go_wp2_with (first
                  | (go_at_call 39; go_loud (refine Rets.use (lives10_c _) ?_); rintro v12 w12 ⟨rfl, hk12⟩)
                  | (go_at_call 34; go_loud (refine Rets.use (wopen_c HD7.out HN4.out HB4.out) ?_); rintro v8 w8 ⟨hk8, Q2, hQ2, hd8, hv8⟩; obtain ⟨pv, ev, rfl⟩ := open_tuple hv8)
                  | (go_at_call 27; go_loud (refine Rets.use (wf_arm HW6.out 0 (by decide)) ?_); rw [HAr.out]; rintro _ w7 ⟨rfl, hW7, hk7⟩; obtain ⟨hK7, P7, Q7, hd7, hm7, hP7, hQ7, hF7⟩ := hW7; have HK7 := Lib.hid hK7; have HD7 := Lib.hid hd7; have HM7 := Lib.hid (hm7 x L rfl); have HP7 := Lib.hid hP7)
                  | (go_at_call 26; go_loud (refine Rets.use (same_c _ _ z (List.replicate 64 0) ((sec_rd HZl.out (Nat.zero_le _) hc4).kept hk5 (fun _ _ h => h)) hr5 (by rw [HZl.out]; decide)) ?_); rintro _ w6 ⟨rfl, hk6⟩; (try rw [HBz.out]); have HW6 := Lib.hid (((hW3.kept hk4).kept hk5).kept hk6))
                  | ((with_reducible refine at_ 160 rfl ?_); go_must (refine step_make rfl _ _ _ rfl 5 _ 1 1 Try.underlying38 row_byte _ _ 64 rfl rfl (by decide) (by decide) ?_); intro w5 hb5 hk5; have hr5 := zeros_rd hb5)
                  | (go_at_call 29; go_loud (refine Rets.use (wf_read hW3 HO3.out HZ3.out HZl.out) ?_); rintro _ w4 ⟨hk4, b4, hb4, rfl, hc4⟩)
                  | (go_at_call 14; go_loud (refine Rets.use (wf_sync HWq.out HOp.out) ?_); rintro _ w3 ⟨rfl, hW3, hk3⟩; rw [HSy.out] at hW3; have c3 := (HRq.out.kept hk3 (fun j h h' => h' h) (fun _ h => h)).cell1 HF1.out))
                go_ret
                exact ⟨rfl, (HK7.out.trans hk8 (fun k hk h => by have := (HP7.out k h).1; omega)).trans hk12 (fun _ _ h => h)⟩
              · have HBz := Lib.hid (show decide (z = List.replicate 64 0) = false from decide_eq_false hzz)
                have HOpn := Lib.hid ((HEnd.out.1 rfl).resolve_left hzz)
                clear hzz HEnd
                go_wp2_with (first
                  | (go_at_call 39; go_loud (refine Rets.use (lives10_c _) ?_); rintro v12 w12 ⟨rfl, hk12⟩)
                  | (go_at_call 28; go_loud (refine Rets.use (dOff_c HD8.out) ?_); rintro _ _ ⟨rfl, rfl⟩; rw [HO4.out])
                  | (go_at_call 34; go_loud (refine Rets.use (wopen_c HD7.out HN4.out HB4.out) ?_); rintro v8 w8 ⟨hk8, Q2, hQ2, hd8, hv8⟩; rw [HOpn.out] at hd8 hv8; obtain ⟨_, rfl⟩ := hv8.resolve_right (fun h => by obtain ⟨_, _, h, _⟩ := h; cases h); have HD8 := Lib.hid hd8)
                  | (go_at_call 27; go_loud (refine Rets.use (wf_arm HW6.out 0 (by decide)) ?_); rw [HAr.out]; rintro _ w7 ⟨rfl, hW7, hk7⟩; obtain ⟨hK7, P7, Q7, hd7, hm7, hP7, hQ7, hF7⟩ := hW7; have HK7 := Lib.hid hK7; have HD7 := Lib.hid hd7; have HM7 := Lib.hid (hm7 x L rfl); have HP7 := Lib.hid hP7)
                  | (go_at_call 26; go_loud (refine Rets.use (same_c _ _ z (List.replicate 64 0) ((sec_rd HZl.out (Nat.zero_le _) hc4).kept hk5 (fun _ _ h => h)) hr5 (by rw [HZl.out]; decide)) ?_); rintro _ w6 ⟨rfl, hk6⟩; (try rw [HBz.out]); have HW6 := Lib.hid (((hW3.kept hk4).kept hk5).kept hk6))
                  | ((with_reducible refine at_ 160 rfl ?_); go_must (refine step_make rfl _ _ _ rfl 5 _ 1 1 Try.underlying38 row_byte _ _ 64 rfl rfl (by decide) (by decide) ?_); intro w5 hb5 hk5; have hr5 := zeros_rd hb5)
                  | (go_at_call 29; go_loud (refine Rets.use (wf_read hW3 HO3.out HZ3.out HZl.out) ?_); rintro _ w4 ⟨hk4, b4, hb4, rfl, hc4⟩)
                  | (go_at_call 14; go_loud (refine Rets.use (wf_sync HWq.out HOp.out) ?_); rintro _ w3 ⟨rfl, hW3, hk3⟩; rw [HSy.out] at hW3; have c3 := (HRq.out.kept hk3 (fun j h h' => h' h) (fun _ h => h)).cell1 HF1.out))
                go_ret
                exact ⟨rfl, (HK7.out.trans hk8 (fun k hk h => by have := (HP7.out k h).1; omega)).trans hk12 (fun _ _ h => h)⟩
theorem walHalts_walk (W : World) (a0 : Option Addr) (n0 c0 : Nat) (x0 : (Kd.slice KDo10).Dat) (H0 : Has W (.slice KDo10) [.slice a0 n0 c0] x0) (x1 : Int) (w1 : (Lit.int .i64 x1).wf = true) (x2 : Int) (w2 : (Lit.int .i64 x2).wf = true) (x3 : Int) (w3 : (Lit.int .u32 x3).wf = true) :
    Calls Try.prog 8 #[.slice a0 n0 c0, .int .i64 x1, .int .i64 x2, .int .u32 x3] W (Rets (Yes W)) := walHalts_in W _ _ (Dos10.of H0) x1 x2 x3
end Go.Proofs.Ytmkpdoljaccpaaa
