/-
  chunk.Whole; lives; ChunkNobody.
-/
import Derived.Test.YtomnkdjlljobeaaChunkR
import Derived.Test.YtomnkdjlljobeaaArgs
namespace Go.Proofs.Ytomnkdjlljobeaa
open Go.RowKit Go.Canon Go.Mem Go.Args
set_option linter.unusedVariables false
set_option linter.unusedSimpArgs false
/-- It is true, and nothing that was there has turned. -/
abbrev Yes (w : World) : Value → World → Prop := fun v w' => v = .bool true ∧ Keeps (fun _ => False) w w'
def Byte (l : List Int) : Prop := ∀ x ∈ l, 0 ≤ x ∧ x ≤ 255
/-- A body, how many bytes, why not. -/
def ThreeIs (w : World) (t : List Int × Int × Int) : Value → World → Prop := fun v w' => Keeps (fun _ => False) w w' ∧ ∃ u, v = .tuple #[u, .int .i64 t.2.1, .int .i64 t.2.2] ∧ OwnRow w' (fun k => w.heap.size ≤ k) 5 1 u t.1.length (Disk.bytes8 t.1)
theorem drop_at {l : List Int} {k : Nat} (h : k < l.length) : l.drop k = l[k] :: l.drop (k + 1) := List.drop_eq_getElem_cons h
set_option maxHeartbeats 3200000 in
set_option maxRecDepth 100000 in
theorem whole12_c {ok : Nat → Prop} {w : World} (v : Value) (l : List Int) (most : Int) (hr : Rd w ok v l.length (Disk.bytes8 l)) (hl : l.length ≤ 999999) (hB : Byte l) : Calls Try.prog 14 #[v, .int .i64 most] w (Rets (ThreeIs w (Chunk.whole l most))) := by
  by_cases hm : most < 0 ∨ 2048 < most
  · have HW := Lib.hid (show Chunk.whole l most = ([], 0, 2) by unfold Chunk.whole; rw [if_pos hm])
    have HN := Lib.hid (new12_no w most hm)
    clear hr hm hB
    go_enter Try.func14, Try.ntmps14
    go_wp2_with (go_at_call 18; refine Rets.use HN.out ?_; rintro v1 w1 ⟨rfl, rfl⟩)
    go_ret3
    rw [HW.out]
    exact ⟨Keeps.refl _ _, _, rfl, OwnRow.nil _ _ _ _⟩
  · have HW := Lib.hid (show Chunk.whole l most = Chunk.go ⟨most, 0, 0, []⟩ l 0 by unfold Chunk.whole; rw [if_neg hm])
    have m0 : 0 ≤ most := by omega
    have m1 : most ≤ 2048 := by omega
    obtain ⟨A, c, rfl, hc, _⟩ := hr.slice
    have HR := Lib.hid hr
    have HB := Lib.hid hB
    have HM := Lib.hid (show Mild ⟨most, 0, 0, []⟩ 0 from ⟨⟨m0, m1⟩, ⟨Int.le_refl 0, by show (0 : Int) ≤ 8; decide⟩, .inl (Int.le_refl 0), fun h => by simp at h, by show (0 : Int) ≤ 2048; decide, Nat.le_refl _⟩)
    clear hr hm hB
    go_enter Try.func14, Try.ntmps14
    go_wp2_with (go_at_call 18; refine Rets.use (new12_c w most m0 m1) ?_; rintro v1 w1 ⟨hk1, g, rfl, hr1⟩)
    have HK1 := Lib.hid hk1
    have HR1 := Lib.hid hr1
    clear hk1 hr1
    go_loopw [23] (fun i wr => ∃ (k : Nat) (r : Chunk.Rd), k ≤ l.length ∧ i = .int .i64 k ∧ Keeps (fun _ => False) w wr ∧ RdIs wr (fun k => w.heap.size ≤ k) g r ∧ Mild r k ∧ Hid (Chunk.go r (l.drop k) k = Chunk.whole l most)) (fun i _ => l.length - (intOf i).toNat)
    case atStart => exact ⟨0, _, Nat.zero_le _, rfl, HK1.out, HR1.out, HM.out, Lib.hid HW.out.symm⟩
    case round =>
      obtain ⟨k, r, hk, rfl, hK, hr, hM, HG⟩ := hrel
      have HK := Lib.hid hK
      clear HR1 HK1 HM
      by_cases hlt : k < l.length
      · obtain ⟨b, o, c', e, _, _, hcell⟩ := (HR.out.kept hK (fun _ _ h => h)).at (by intro e; have := congrArg List.length e; rw [Disk.bytes8_len, List.length_nil] at this; omega)
        cases e
        have cx : wr.cell? ⟨b, o + k, none⟩ = some (.int .u8 l[k]) := hcell k _ (by simp [Disk.bytes8, hlt])
        have hx := HB.out l[k] (List.getElem_mem _)
        rw [drop_at hlt] at HG
        generalize l[k] = x at *
        have HP := Lib.hid (put12_c hr hM (by omega) x hx)
        have HM2 := Lib.hid (hM.put x)
        rw [Chunk.go] at HG
        clear hr hM hcell hx
        generalize Chunk.put r x = p at *
        obtain ⟨⟨d, e⟩, r2⟩ := p
        by_cases he : e = 0
        · subst he
          cases d
          · have HG2 := Lib.hid (show Chunk.go r2 (l.drop (k + 1)) ((k : Int) + 1) = Chunk.whole l most by have := HG.out; simpa using this)
            clear HG hK
            go_wp2_with (go_at_call 19; refine Rets.use HP.out ?_; rintro v2 w2 ⟨rfl, hr2, hk2⟩)
            go_roundw
            case rel => exact ⟨k + 1, r2, by omega, by go_num, HK.out.trans hk2 (fun k hk h => by omega), hr2.mono (fun k _ h => by rcases h with h | h; exact h; exact Nat.le_trans HK.out.size h), HM2.out, Lib.hid (by rw [← HG2.out]; congr 1)⟩
            case measure => simp [intOf]; omega
          · have HG2 := Lib.hid (show Chunk.whole l most = (r2.b, (k : Int) + 1, 0) by have := HG.out; simp at this; exact this.symm)
            have hb2 : r2.b.length ≤ 140737488355328 := by have := HM2.out.len; simp only at this; omega
            clear HG hK
            go_wp2_with (first
              | (go_at_call 21; refine Rets.use (body12_c hr2 hb2) ?_; rintro v3 w3 ⟨hO3, hk3⟩)
              | (go_at_call 19; refine Rets.use HP.out ?_; rintro v2 w2 ⟨rfl, hr2, hk2⟩))
            go_ret3
            rw [HG2.out]
            exact ⟨(HK.out.trans hk2 (fun k hk h => by omega)).trans hk3 (fun _ _ h => h), _, rfl, hO3.mono (fun k _ h => by have := HK.out.size; have := hk2.size; omega)⟩
        · have HG2 := Lib.hid (show Chunk.whole l most = ([], 0, e) by have := HG.out; simp [he] at this; exact this.symm)
          have he2 : (e != 0) = true := by simpa using he
          clear HG hK he
          go_wp2_with (go_at_call 19; refine Rets.use HP.out ?_; rintro v2 w2 ⟨rfl, hr2, hk2⟩)
          go_ret3
          rw [HG2.out]
          exact ⟨HK.out.trans hk2 (fun k hk h => by omega), _, rfl, OwnRow.nil _ _ _ _⟩
      · obtain rfl : k = l.length := by omega
        have HG2 := Lib.hid (show Chunk.whole l most = ([], 0, 3) by have := HG.out; rw [List.drop_length] at this; exact this.symm)
        clear HG hr hM hK
        go_wp2
        go_ret3
        rw [HG2.out]
        exact ⟨HK.out, _, rfl, OwnRow.nil _ _ _ _⟩
theorem lits8 {w : World} {xs : List Int} {B n : Nat} {t : TypeId} {b : Nat} {fz : Nat × Nat} (hb : w.heap[b]? = some (.cells ((xs.map (Value.int .u8)).flatMap fun v => v.cells.toList).toArray t fz)) (hB : B ≤ b) (hn : xs.length = n) : Rd w (fun k => B ≤ k) (.slice (some ⟨b, 0, none⟩) n n) xs.length (Disk.bytes8 xs) := by
  have e : ((xs.map (Value.int .u8)).flatMap fun v => v.cells.toList) = Disk.bytes8 xs := by
    unfold Disk.bytes8
    clear hb hn
    induction xs with
    | nil => rfl
    | cons x l ih => rw [List.map_cons, List.flatMap_cons, ih]; rfl
  rw [e] at hb
  subst hn
  exact ⟨_, _, rfl, Nat.le_refl _, fun h => (by cases h), .inr ⟨b, 0, rfl, hB, fun j u hu => by rw [cell_of_row w _ _ _ _ _ hb, Nat.zero_add]; simpa using hu⟩⟩
theorem lives_whole : Chunk.whole [49, 13, 10, 97, 13, 10, 48, 13, 10, 13, 10] 1 = ([97], 11, 0) := by decide
set_option maxHeartbeats 1600000 in
set_option maxRecDepth 100000 in
theorem lives12_c (w : World) : Calls Try.prog 17 #[] w (Rets (Yes w)) := by
  have HL := Lib.hid lives_whole
  go_enter Try.func17, Try.ntmps17
  go_wp2_with (first
    | ((with_reducible refine at_ 5 rfl ?_); go_must (refine step_lit rfl 22 _ 11 rfl ([49, 13, 10, 97, 13, 10, 48, 13, 10, 13, 10].map (Value.int .u8)) rfl rfl (by decide) 5 _ 1 Try.underlying22 row2_byte (by decide) (by decide) (by intro v hv; simp at hv; rcases hv with h | h | h | h | h | h | h | h | h | h | h <;> subst h <;> rfl) ?_); intro w1 hb1 hk1 hs1)
    | ((with_reducible refine at_ 6 rfl ?_); go_must (refine step_bytes_bytes rfl 22 _ rfl 5 Try.underlying22 Try.underlying5 w.heap.size 11 11 rfl _ _ hb1 ?_); intro w2 hb2 hk2 hs2; have hr2 := lits8 (B := w.heap.size) (n := 11) hb2 (Nat.le_refl _) rfl)
    | (go_at_call 14; go_loud (refine Rets.use (whole12_c _ [49, 13, 10, 97, 13, 10, 48, 13, 10, 13, 10] 1 hr2 (by decide) (by intro x hx; simp at hx; omega)) ?_); intro v w3 h3; rw [HL.out] at h3; obtain ⟨hk3, u, rfl, hO3⟩ := (show Keeps (fun _ => False) w2 w3 ∧ ∃ u, v = .tuple #[u, .int .i64 11, .int .i64 0] ∧ OwnRow w3 (fun k => w2.heap.size ≤ k) 5 1 u 1 (Disk.bytes8 [97]) from h3); obtain ⟨A3, c3, rfl, _⟩ := hO3.slice))
  go_ret
  exact ⟨rfl, (hk1.trans hk2 (fun k hk e => by omega)).trans hk3 (fun _ _ h => h)⟩
/-- No reader, or one that no call made. -/
def NoRd (w : World) (p : Value) : Prop := p = .pointer none ∨ ∃ g, p = .pointer (some ⟨g, 0, none⟩) ∧ w.cell? ⟨g, 4, none⟩ = some (.bool false) ∧ w.cell? ⟨g, 3, none⟩ = some (.slice none 0 0)
theorem put_no {w : World} {p : Value} (h : NoRd w p) (x : Int) : Calls Try.prog 19 #[p, .int .u8 x] w (Rets (Only (.tuple #[.bool false, .int .i64 1]) w)) := by
  rcases h with rfl | ⟨g, rfl, c4, c3⟩
  · go_enter Try.func19, Try.ntmps19
    go_wp2
    go_ret2
    exact ⟨rfl, rfl⟩
  · go_enter Try.func19, Try.ntmps19
    go_wp2
    go_ret2
    exact ⟨rfl, rfl⟩
def Naught (w : World) : Value → World → Prop := fun v w' => Keeps (fun _ => False) w w' ∧ ∃ A c, v = .slice A 0 c
theorem body_no {w : World} {p : Value} (h : NoRd w p) : Calls Try.prog 21 #[p] w (Rets (Naught w)) := by
  rcases h with rfl | ⟨g, rfl, c4, c3⟩
  · go_enter Try.func21, Try.ntmps21
    go_wp2
    go_ret
    exact ⟨Keeps.refl _ _, _, _, rfl⟩
  · have HC := Lib.hid (clone_c (.slice none 0 0) [] (Rd.nil w (fun _ => True)) (by decide))
    go_enter Try.func21, Try.ntmps21
    go_wp2_with (go_at_call 38; refine Rets.use HC.out ?_; rintro v1 w1 ⟨hr1, hk1⟩)
    go_ret
    obtain ⟨A, c, e, _⟩ := hr1.slice
    exact ⟨hk1, A, c, e⟩
set_option maxHeartbeats 1600000 in
set_option maxRecDepth 100000 in
theorem nobody12_walk (W : World) (x : Int) (wx : (Lit.int .u8 x).wf = true) : Calls Try.prog 5 #[.int .u8 x] W (Rets (Yes W)) := by
  obtain ⟨w2, hw2⟩ : ∃ w2, w2 = W.alloc (Obj.cells #[.int .i64 0, .int .i64 0, .int .i64 0, .slice none 0 0, .bool false] 45) := ⟨_, rfl⟩
  have hb : w2.heap[W.heap.size]? = some (.cells #[.int .i64 0, .int .i64 0, .int .i64 0, .slice none 0 0, .bool false] 45 (0, 0)) := by rw [hw2]; exact heap_alloc_new W _
  have hk : Keeps (fun _ => False) W w2 := by rw [hw2]; exact (Keeps.refl _ W).alloc _
  have c4 : w2.cell? ⟨W.heap.size, 4, none⟩ = some (.bool false) := cell_of_row w2 _ _ _ _ _ hb
  have c3 : w2.cell? ⟨W.heap.size, 3, none⟩ = some (.slice none 0 0) := cell_of_row w2 _ _ _ _ _ hb
  have HW := Lib.hid hw2
  have HK := Lib.hid hk
  have hk4 : Keeps (fun _ => False) w2 w2 := Keeps.refl _ _
  clear hw2 hb
  go_enter Try.func5, Try.ntmps5
  go_wp2_with (first
    | (go_at_call 17; refine Rets.use (lives12_c _) ?_; rintro v w6 ⟨rfl, hk6⟩)
    | (go_at_call 21; refine Rets.use (body_no (by first | exact .inl rfl | exact .inr ⟨_, rfl, c4, c3⟩ | exact .inr ⟨_, rfl, hk4.cell c4 (fun h => h), hk4.cell c3 (fun h => h)⟩)) ?_; rintro v w4 ⟨hk5, A4, c4', rfl⟩; have hk4 := hk4.trans hk5 (fun _ _ h => h))
    | (go_at_call 19; (try rw [← HW.out]); refine Rets.use (put_no (by first | exact .inl rfl | exact .inr ⟨_, rfl, c4, c3⟩) x) ?_; rintro v w3 ⟨rfl, rfl⟩))
  go_ret
  exact ⟨rfl, (HK.out.trans hk4 (fun _ _ h => h)).trans hk6 (fun _ _ h => h)⟩
end Go.Proofs.Ytomnkdjlljobeaa
