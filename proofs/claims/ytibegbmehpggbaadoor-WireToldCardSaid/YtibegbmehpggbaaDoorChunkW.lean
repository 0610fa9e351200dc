/-
  The walks of package chunk: a reader, byte by byte.
-/
import Derived.Test.YtibegbmehpggbaaDoorSmall
import Derived.Test.YtibegbmehpggbaaDoorMem3
import Derived.Test.YtibegbmehpggbaaDoorChunk
namespace Go.Proofs.YtibegbmehpggbaaDoor
open Go.RowKit Go.Canon Go.Mem
set_option linter.unusedVariables false
set_option linter.unusedSimpArgs false
/-- A reader in memory. -/
def RdIs (w : World) (S : Nat → Prop) (g : Nat) (r : Chunk.Rd) : Prop := ∃ v, w.heap[g]? = some (.cells [Value.int .i64 r.most, .int .i64 r.at_, .int .i64 r.left, v, .bool true].toArray 78 (0, 0)) ∧ S g ∧ OwnRow w (fun k => S k ∧ k ≠ g) 5 1 v r.b.length (Disk.bytes8 r.b)
theorem RdIs.kept {w w' : World} {S S' : Nat → Prop} {g : Nat} {r : Chunk.Rd} (h : RdIs w S g r) (hk : Keeps S' w w') (hn : ∀ k, S k → ¬ S' k) : RdIs w' S g r := by
  obtain ⟨v, h1, h2, h3⟩ := h
  exact ⟨v, hk.heap h1 (hn g h2), h2, h3.kept hk (fun k hk => hn k hk.1)⟩
theorem RdIs.mono {w : World} {S S' : Nat → Prop} {g : Nat} {r : Chunk.Rd} (h : RdIs w S g r) (hs : ∀ k, k < w.heap.size → S k → S' k) : RdIs w S' g r := by
  obtain ⟨v, h1, h2, h3⟩ := h
  exact ⟨v, h1, hs g (lt_of h1) h2, h3.mono (fun k hk h => ⟨hs k hk h.1, h.2⟩)⟩
/-- No number grows too great. -/
structure Mild (r : Chunk.Rd) (n : Nat) : Prop where
  most : 0 ≤ r.most ∧ r.most ≤ 2048
  at_ : 0 ≤ r.at_ ∧ r.at_ ≤ 8
  left : 0 ≤ r.left ∨ (6 ≤ r.at_ ∧ -1 ≤ r.left)
  left3 : r.at_ = 3 → 1 ≤ r.left
  top : r.left ≤ 2048
  len : r.b.length ≤ n
theorem Mild.put {r : Chunk.Rd} {n : Nat} (h : Mild r n) (x : Int) : Mild (Chunk.put r x).2 (n + 1) := by
  obtain ⟨⟨m1, m2⟩, ⟨a1, a2⟩, l1, l2, l3, h3⟩ := h
  have hd := Chunk.digit_le x
  have ht : Mild (Chunk.take r x).2 (n + 1) := by
    unfold Chunk.take Chunk.count Chunk.must
    repeat' split
    all_goals refine ⟨⟨?_, ?_⟩, ⟨?_, ?_⟩, ?_, ?_, ?_, ?_⟩
    all_goals simp only [List.length_append, List.length_singleton]
    all_goals omega
  unfold Chunk.put
  split
  · exact ⟨⟨m1, m2⟩, ⟨a1, a2⟩, l1, l2, l3, Nat.le_succ_of_le h3⟩
  · split
    · obtain ⟨b1, b2, b3, b4, b5, b6⟩ := ht
      refine ⟨b1, ⟨by simp, by simp⟩, ?_, fun h => by simp at h, b5, b6⟩
      rcases b3 with h | h
      · exact .inl h
      · exact .inr ⟨by simp, h.2⟩
    · exact ht
theorem info_int : (Tryd.prog.info? 3).map (·.size) = some 1 := by kernel_rfl
theorem info_bytes12 : (Tryd.prog.info? 22).map (·.size) = some 1 := by kernel_rfl
set_option maxHeartbeats 800000 in
theorem digit12_c (x : Int) (h0 : 0 ≤ x) (h1 : x ≤ 255) (w : World) : Calls Tryd.prog 47 #[.int .u8 x] w (Rets (Only (.int .i64 (Chunk.digit x)) w)) := by
  by_cases a1 : 48 ≤ x
  · by_cases a2 : x ≤ 57
    · have HD := Lib.hid (show Chunk.digit x = x - 48 by unfold Chunk.digit; rw [if_pos ⟨a1, a2⟩])
      go_enter Tryd.func47, Tryd.ntmps47
      go_wp2
      go_ret
      exact ⟨by rw [HD.out]; rfl, rfl⟩
    · by_cases a3 : 97 ≤ x
      · by_cases a4 : x ≤ 102
        · have HD := Lib.hid (show Chunk.digit x = x - 97 + 10 by unfold Chunk.digit; rw [if_neg (by omega), if_pos ⟨a3, a4⟩])
          go_enter Tryd.func47, Tryd.ntmps47
          go_wp2
          go_ret
          exact ⟨by rw [HD.out]; rfl, rfl⟩
        · have HD := Lib.hid (show Chunk.digit x = -1 by unfold Chunk.digit; rw [if_neg (by omega), if_neg (by omega)])
          go_enter Tryd.func47, Tryd.ntmps47
          go_wp2
          go_ret
          exact ⟨by rw [HD.out]; rfl, rfl⟩
      · have HD := Lib.hid (show Chunk.digit x = -1 by unfold Chunk.digit; rw [if_neg (by omega), if_neg (by omega)])
        go_enter Tryd.func47, Tryd.ntmps47
        go_wp2
        go_ret
        exact ⟨by rw [HD.out]; rfl, rfl⟩
  · have HD := Lib.hid (show Chunk.digit x = -1 by unfold Chunk.digit; rw [if_neg (by omega), if_neg (by omega)])
    have a3 : ¬ 97 ≤ x := by omega
    go_enter Tryd.func47, Tryd.ntmps47
    go_wp2
    go_ret
    exact ⟨by rw [HD.out]; rfl, rfl⟩
/-- What a step of a reader answers. -/
def StepIs (w : World) (S : Nat → Prop) (g : Nat) (ans : Value) (r : Chunk.Rd) : Value → World → Prop := fun v w' => v = ans ∧ RdIs w' (fun k => S k ∨ w.heap.size ≤ k) g r ∧ Keeps S w w'
section
variable {w : World} {S : Nat → Prop} {g : Nat} {r : Chunk.Rd}
set_option maxHeartbeats 800000 in
theorem must12_c (h : RdIs w S g r) (x want to : Int) (h0 : 0 ≤ x ∧ x ≤ 255) (h1 : 0 ≤ want ∧ want ≤ 255) : Calls Tryd.prog 46 #[.pointer (some ⟨g, 0, none⟩), .int .u8 x, .int .u8 want, .int .i64 to] w (Rets (StepIs w S g (.int .i64 (Chunk.must r x want to).1) (Chunk.must r x want to).2)) := by
  have HR := Lib.hid h
  obtain ⟨v, hb, hg, hO⟩ := h
  have HO := Lib.hid hO
  have HB := Lib.hid hb
  clear hO hb
  by_cases hx : x = want
  · have HM := Lib.hid (show Chunk.must r x want to = (0, { r with at_ := to }) by unfold Chunk.must; rw [if_pos hx])
    have hb2 : (x != want) = false := by simp [hx]
    clear hx
    go_enter Tryd.func46, Tryd.ntmps46
    go_wp2_with ((with_reducible refine at_store 3 (.tmp 15) (.tmp 13) rfl ?_); go_must (refine step_store1 rfl _ _ _ rfl g 1 (.int .i64 to) _ _ rfl rfl rfl HB.out (by simp) info_int ?_); intro w2 hb2 hk2 hs2)
    go_ret
    rw [HM.out]
    exact ⟨rfl, ⟨v, hb2, .inl hg, (HO.out.kept hk2 (fun k hk e => hk.2 e)).mono (fun k _ h => ⟨.inl h.1, h.2⟩)⟩, hk2.mono (fun k _ e => by subst e; exact hg)⟩
  · have HM := Lib.hid (show Chunk.must r x want to = (4, r) by unfold Chunk.must; rw [if_neg hx])
    have hb2 : (x != want) = true := by simpa using hx
    clear hx
    go_enter Tryd.func46, Tryd.ntmps46
    go_wp2
    go_ret
    rw [HM.out]
    exact ⟨rfl, HR.out.mono (fun k _ h => .inl h), Keeps.refl _ _⟩
theorem own_self {w : World} {ok : Nat → Prop} {e : TypeId} {sz n : Nat} {v : Value} {cs : List Value} (h : OwnRow w ok e sz v n cs) : OwnRow w (fun k => v.ownBlock = some k) e sz v n cs := ⟨h.1, fun _ h => h⟩
theorem lens {w : World} {ok : Nat → Prop} {v : Value} {n : Nat} {cs : List Value} (h : OwnRow w ok 5 1 v n cs) : ∃ A c, v = .slice A n c := by
  obtain ⟨A, c, e, _⟩ := h.slice
  exact ⟨A, c, e⟩
set_option maxHeartbeats 1600000 in
theorem count12_c (h : RdIs w S g r) {n : Nat} (hm : Mild r n) (hn : n ≤ 1000000) (x : Int) (h0 : 0 ≤ x ∧ x ≤ 255) (hl : 0 ≤ r.left) : Calls Tryd.prog 45 #[.pointer (some ⟨g, 0, none⟩), .int .u8 x] w (Rets (StepIs w S g (.int .i64 (Chunk.count r x).1) (Chunk.count r x).2)) := by
  have HR := Lib.hid h
  obtain ⟨v, hb, hg, hO⟩ := h
  have HO := Lib.hid hO
  have HB := Lib.hid hb
  obtain ⟨A, c, rfl⟩ := lens hO
  have c0 : w.cell? ⟨g, 0, none⟩ = some (.int .i64 r.most) := (cell_of_row w g 0 _ _ _ hb).trans rfl
  have c1 : w.cell? ⟨g, 1, none⟩ = some (.int .i64 r.at_) := (cell_of_row w g 1 _ _ _ hb).trans rfl
  have c2 : w.cell? ⟨g, 2, none⟩ = some (.int .i64 r.left) := (cell_of_row w g 2 _ _ _ hb).trans rfl
  have c3 : w.cell? ⟨g, 3, none⟩ = some (.slice A r.b.length c) := (cell_of_row w g 3 _ _ _ hb).trans rfl
  have hd := Chunk.digit_le x
  have hlen := hm.len
  have htop := hm.top
  obtain ⟨m1, m2⟩ := hm.most
  have HD := Lib.hid (show -1 ≤ Chunk.digit x by unfold Chunk.digit; split <;> (try split) <;> omega)
  have hd2 := HD.out
  clear hO hb hm
  by_cases b1 : Chunk.digit x < 0
  · have HC := Lib.hid (show Chunk.count r x = (4, r) by unfold Chunk.count; rw [if_pos (.inl b1)])
    go_enter Tryd.func45, Tryd.ntmps45
    go_wp2_with (go_at_call 47; refine Rets.use (digit12_c x h0.1 h0.2 _) ?_; rintro v1 w1 ⟨rfl, rfl⟩)
    go_ret
    rw [HC.out]
    exact ⟨rfl, HR.out.mono (fun k _ h => .inl h), Keeps.refl _ _⟩
  · by_cases b2 : r.at_ = 1 ∧ r.left = 0
    · have HC := Lib.hid (show Chunk.count r x = (4, r) by unfold Chunk.count; rw [if_pos (.inr b2)])
      rw [b2.1] at c1
      rw [b2.2] at c2
      clear b2
      go_enter Tryd.func45, Tryd.ntmps45
      go_wp2_with (go_at_call 47; refine Rets.use (digit12_c x h0.1 h0.2 _) ?_; rintro v1 w1 ⟨rfl, rfl⟩)
      go_ret
      rw [HC.out]
      exact ⟨rfl, HR.out.mono (fun k _ h => .inl h), Keeps.refl _ _⟩
    · by_cases b3 : r.most - r.b.length < 16 * r.left + Chunk.digit x
      · have HC := Lib.hid (show Chunk.count r x = (5, r) by unfold Chunk.count; rw [if_neg (by rintro (h | h); exact b1 h; exact b2 h), if_pos b3])
        by_cases b4 : r.at_ = 1
        · have b5 : (r.left == 0) = false := by simp; intro h; exact b2 ⟨b4, h⟩
          rw [b4] at c1
          clear b4 b2
          go_enter Tryd.func45, Tryd.ntmps45
          go_wp2_with (go_at_call 47; refine Rets.use (digit12_c x h0.1 h0.2 _) ?_; rintro v1 w1 ⟨rfl, rfl⟩)
          refine Canon.row [0, 1, 2, 3, 5, 6, 7, 4, 8, 9, 10, 11] (by kernel_rfl) (by kernel_rfl) (by repeat (first | (with_reducible exact Safe.body) | (with_reducible apply Safe.then) | (with_reducible apply Safe.inBlock) | (dsimp +zetaDelta only))) ?_
          simp only [Canon.pick, Canon.wpPlan, List.getElem?_toArray, List.getElem?_cons_zero, List.getElem?_cons_succ]
          have KD : Keeps (fun _ => False) w w.drew := (Keeps.refl _ w).drew
          have c0 := KD.cell c0 (fun h => h)
          have c3 := KD.cell c3 (fun h => h)
          have c1 := KD.cell c1 (fun h => h)
          have c2 := KD.cell c2 (fun h => h)
          go_wp2
          refine ⟨by rfl, trivial, ?_⟩
          go_wp2
          go_ret
          rw [HC.out]
          exact ⟨rfl, HR.out.mono (fun k _ h => .inl h) |>.kept KD (fun _ _ h => h), (Keeps.refl _ _).drew⟩
        · have b5 : (r.at_ == 1) = false := by simpa using b4
          clear b4 b2
          go_enter Tryd.func45, Tryd.ntmps45
          go_wp2_with (go_at_call 47; refine Rets.use (digit12_c x h0.1 h0.2 _) ?_; rintro v1 w1 ⟨rfl, rfl⟩)
          refine Canon.row [0, 1, 2, 3, 5, 6, 7, 4, 8, 9, 10, 11] (by kernel_rfl) (by kernel_rfl) (by repeat (first | (with_reducible exact Safe.body) | (with_reducible apply Safe.then) | (with_reducible apply Safe.inBlock) | (dsimp +zetaDelta only))) ?_
          simp only [Canon.pick, Canon.wpPlan, List.getElem?_toArray, List.getElem?_cons_zero, List.getElem?_cons_succ]
          have KD : Keeps (fun _ => False) w w.drew := (Keeps.refl _ w).drew
          have c0 := KD.cell c0 (fun h => h)
          have c3 := KD.cell c3 (fun h => h)
          have c1 := KD.cell c1 (fun h => h)
          have c2 := KD.cell c2 (fun h => h)
          go_wp2
          refine ⟨by rfl, trivial, ?_⟩
          go_wp2
          go_ret
          rw [HC.out]
          exact ⟨rfl, HR.out.mono (fun k _ h => .inl h) |>.kept KD (fun _ _ h => h), (Keeps.refl _ _).drew⟩
      · have HC := Lib.hid (show Chunk.count r x = (0, { r with left := 16 * r.left + Chunk.digit x, at_ := 1 }) by unfold Chunk.count; rw [if_neg (by rintro (h | h); exact b1 h; exact b2 h), if_neg b3])
        by_cases b4 : r.at_ = 1
        · have b5 : (r.left == 0) = false := by simp; intro h; exact b2 ⟨b4, h⟩
          rw [b4] at c1
          clear b4 b2
          go_enter Tryd.func45, Tryd.ntmps45
          go_wp2_with (go_at_call 47; refine Rets.use (digit12_c x h0.1 h0.2 _) ?_; rintro v1 w1 ⟨rfl, rfl⟩)
          refine Canon.row [0, 1, 2, 3, 5, 6, 7, 4, 8, 9, 10, 11] (by kernel_rfl) (by kernel_rfl) (by repeat (first | (with_reducible exact Safe.body) | (with_reducible apply Safe.then) | (with_reducible apply Safe.inBlock) | (dsimp +zetaDelta only))) ?_
          simp only [Canon.pick, Canon.wpPlan, List.getElem?_toArray, List.getElem?_cons_zero, List.getElem?_cons_succ]
          have KD : Keeps (fun _ => False) w w.drew := (Keeps.refl _ w).drew
          have c0 := KD.cell c0 (fun h => h)
          have c3 := KD.cell c3 (fun h => h)
          have c1 := KD.cell c1 (fun h => h)
          have c2 := KD.cell c2 (fun h => h)
          have HB := Lib.hid (KD.heap HB.out (fun h => h))
          go_wp2
          refine ⟨by rfl, trivial, ?_⟩
          go_wp2_with (first
            | ((with_reducible refine at_store 3 (.tmp 48) (.tmp 46) rfl ?_); go_must (refine step_store1 rfl _ _ _ rfl g 2 (.int .i64 (16 * r.left + Chunk.digit x)) _ _ rfl rfl rfl HB.out (by simp) info_int ?_); intro w2 hb2 hk2 hs2)
            | ((with_reducible refine at_store 3 (.tmp 50) (.const (.int .i64 1)) rfl ?_); go_must (refine step_store1 rfl _ _ _ rfl g 1 (.int .i64 1) _ _ rfl rfl rfl hb2 (by simp) info_int ?_); intro w3 hb3 hk3 hs3))
          go_ret
          rw [HC.out]
          have hk : Keeps (· = g) w w3 := ((KD.mono (fun _ _ h => h.elim)).trans hk2 (fun _ _ h => h)).trans hk3 (fun _ _ h => h)
          exact ⟨rfl, ⟨_, hb3, .inl hg, (HO.out.kept hk (fun k hk e => hk.2 e)).mono (fun k _ h => ⟨.inl h.1, h.2⟩)⟩, hk.mono (fun k _ e => by subst e; exact hg)⟩
        · have b5 : (r.at_ == 1) = false := by simpa using b4
          clear b4 b2
          go_enter Tryd.func45, Tryd.ntmps45
          go_wp2_with (go_at_call 47; refine Rets.use (digit12_c x h0.1 h0.2 _) ?_; rintro v1 w1 ⟨rfl, rfl⟩)
          refine Canon.row [0, 1, 2, 3, 5, 6, 7, 4, 8, 9, 10, 11] (by kernel_rfl) (by kernel_rfl) (by repeat (first | (with_reducible exact Safe.body) | (with_reducible apply Safe.then) | (with_reducible apply Safe.inBlock) | (dsimp +zetaDelta only))) ?_
          simp only [Canon.pick, Canon.wpPlan, List.getElem?_toArray, List.getElem?_cons_zero, List.getElem?_cons_succ]
          have KD : Keeps (fun _ => False) w w.drew := (Keeps.refl _ w).drew
          have c0 := KD.cell c0 (fun h => h)
          have c3 := KD.cell c3 (fun h => h)
          have c1 := KD.cell c1 (fun h => h)
          have c2 := KD.cell c2 (fun h => h)
          have HB := Lib.hid (KD.heap HB.out (fun h => h))
          go_wp2
          refine ⟨by rfl, trivial, ?_⟩
          go_wp2_with (first
            | ((with_reducible refine at_store 3 (.tmp 48) (.tmp 46) rfl ?_); go_must (refine step_store1 rfl _ _ _ rfl g 2 (.int .i64 (16 * r.left + Chunk.digit x)) _ _ rfl rfl rfl HB.out (by simp) info_int ?_); intro w2 hb2 hk2 hs2)
            | ((with_reducible refine at_store 3 (.tmp 50) (.const (.int .i64 1)) rfl ?_); go_must (refine step_store1 rfl _ _ _ rfl g 1 (.int .i64 1) _ _ rfl rfl rfl hb2 (by simp) info_int ?_); intro w3 hb3 hk3 hs3))
          go_ret
          rw [HC.out]
          have hk : Keeps (· = g) w w3 := ((KD.mono (fun _ _ h => h.elim)).trans hk2 (fun _ _ h => h)).trans hk3 (fun _ _ h => h)
          exact ⟨rfl, ⟨_, hb3, .inl hg, (HO.out.kept hk (fun k hk e => hk.2 e)).mono (fun k _ h => ⟨.inl h.1, h.2⟩)⟩, hk.mono (fun k _ e => by subst e; exact hg)⟩
theorem lit8 {w : World} {x : Int} {B : Nat} {t : TypeId} {b : Nat} (hb : w.heap[b]? = some (.cells ([Value.int .u8 x].flatMap fun v => v.cells.toList).toArray t (0, 0))) (hB : B ≤ b) : Rd w (fun k => B ≤ k) (.slice (some ⟨b, 0, none⟩) 1 1) 1 (Disk.bytes8 [x]) :=
  ⟨_, _, rfl, by decide, fun h => (by cases h), .inr ⟨b, 0, rfl, hB, fun j u hu => by rw [cell_of_row w _ _ _ _ _ hb, Nat.zero_add]; simpa [Value.cells, Disk.bytes8] using hu⟩⟩
set_option maxHeartbeats 3200000 in
theorem take12_c (h : RdIs w S g r) {n : Nat} (hm : Mild r n) (hn : n ≤ 1000000) (x : Int) (h0 : 0 ≤ x ∧ x ≤ 255) : Calls Tryd.prog 42 #[.pointer (some ⟨g, 0, none⟩), .int .u8 x] w (Rets (StepIs w S g (.int .i64 (Chunk.take r x).1) (Chunk.take r x).2)) := by
  have HR := Lib.hid h
  have HM := Lib.hid hm
  obtain ⟨v, hb, hg, hO⟩ := h
  have HO := Lib.hid hO
  have HB := Lib.hid hb
  obtain ⟨A, c, rfl⟩ := lens hO
  have c1 : w.cell? ⟨g, 1, none⟩ = some (.int .i64 r.at_) := (cell_of_row w g 1 _ _ _ hb).trans rfl
  have c2 : w.cell? ⟨g, 2, none⟩ = some (.int .i64 r.left) := (cell_of_row w g 2 _ _ _ hb).trans rfl
  have c3 : w.cell? ⟨g, 3, none⟩ = some (.slice A r.b.length c) := (cell_of_row w g 3 _ _ _ hb).trans rfl
  have hlen := hm.len
  have htop := hm.top
  obtain ⟨a0, a8⟩ := hm.at_
  have l1 := hm.left
  have l3 := hm.left3
  clear hO hb hm
  have ways : r.at_ = 0 ∨ r.at_ = 1 ∨ r.at_ = 2 ∨ r.at_ = 3 ∨ r.at_ = 4 ∨ r.at_ = 5 ∨ r.at_ = 6 ∨ 7 ≤ r.at_ := by omega
  rcases ways with e | e | e | e | e | e | e | e
  · have HT := Lib.hid (show Chunk.take r x = Chunk.count r x by unfold Chunk.take; rw [if_pos e])
    have hl : 0 ≤ r.left := by omega
    rw [e] at c1
    clear e
    go_enter Tryd.func42, Tryd.ntmps42
    go_wp2_with (go_at_call 45; refine Rets.use (count12_c HR.out HM.out hn x h0 hl) ?_; rintro v1 w1 ⟨rfl, hr1, hk1⟩)
    go_ret
    rw [HT.out]
    exact ⟨rfl, hr1, hk1⟩
  · have hl : 0 ≤ r.left := by omega
    by_cases hx : x = 13
    · have HT := Lib.hid (show Chunk.take r x = (0, { r with at_ := 2 }) by unfold Chunk.take; rw [if_neg (by omega), if_pos e, if_pos hx])
      rw [e] at c1
      subst hx
      clear e
      go_enter Tryd.func42, Tryd.ntmps42
      go_wp2_with ((with_reducible refine at_store 3 (.tmp 21) (.const (.int .i64 2)) rfl ?_); go_must (refine step_store1 rfl _ _ _ rfl g 1 (.int .i64 2) _ _ rfl rfl rfl HB.out (by simp) info_int ?_); intro w2 hb2 hk2 hs2)
      go_ret
      rw [HT.out]
      exact ⟨rfl, ⟨_, hb2, .inl hg, (HO.out.kept hk2 (fun k hk e => hk.2 e)).mono (fun k _ h => ⟨.inl h.1, h.2⟩)⟩, hk2.mono (fun k _ e => by subst e; exact hg)⟩
    · have HT := Lib.hid (show Chunk.take r x = Chunk.count r x by unfold Chunk.take; rw [if_neg (by omega), if_pos e, if_neg hx])
      have hx2 : (x == 13) = false := by simpa using hx
      rw [e] at c1
      clear e hx
      go_enter Tryd.func42, Tryd.ntmps42
      go_wp2_with (go_at_call 45; refine Rets.use (count12_c HR.out HM.out hn x h0 hl) ?_; rintro v1 w1 ⟨rfl, hr1, hk1⟩)
      go_ret
      rw [HT.out]
      exact ⟨rfl, hr1, hk1⟩
  · by_cases hl : r.left = 0
    · have HT := Lib.hid (show Chunk.take r x = Chunk.must r x 10 6 by unfold Chunk.take; rw [if_neg (by omega), if_neg (by omega), if_pos e, if_pos hl])
      rw [e] at c1
      rw [hl] at c2
      clear e hl
      go_enter Tryd.func42, Tryd.ntmps42
      go_wp2_with (go_at_call 46; refine Rets.use (must12_c HR.out x 10 6 h0 (by decide)) ?_; rintro v1 w1 ⟨rfl, hr1, hk1⟩)
      go_ret
      rw [HT.out]
      exact ⟨rfl, hr1, hk1⟩
    · have HT := Lib.hid (show Chunk.take r x = Chunk.must r x 10 3 by unfold Chunk.take; rw [if_neg (by omega), if_neg (by omega), if_pos e, if_neg hl])
      have hl2 : (r.left == 0) = false := by simpa using hl
      rw [e] at c1
      clear e hl
      go_enter Tryd.func42, Tryd.ntmps42
      go_wp2_with (go_at_call 46; refine Rets.use (must12_c HR.out x 10 3 h0 (by decide)) ?_; rintro v1 w1 ⟨rfl, hr1, hk1⟩)
      go_ret
      rw [HT.out]
      exact ⟨rfl, hr1, hk1⟩
  · have hl := l3 e
    by_cases hl1 : r.left = 1
    · have HT := Lib.hid (show Chunk.take r x = (0, { r with b := r.b ++ [x], left := 0, at_ := 4 }) by unfold Chunk.take; rw [if_neg (by omega), if_neg (by omega), if_neg (by omega), if_pos e, hl1]; rfl)
      rw [e] at c1
      rw [hl1] at c2
      have HL1 := Lib.hid hl1
      clear e hl1 l1 l3 hl htop
      go_enter Tryd.func42, Tryd.ntmps42
      go_wp2_with (first
        | ((with_reducible refine at_ 44 rfl ?_); go_must (refine step_lit rfl 22 _ 1 rfl [.int .u8 x] rfl rfl (by decide) 5 _ 1 Tryd.underlying22 row2_byte (by decide) (by decide) (by intro v hv; rw [List.mem_singleton] at hv; subst hv; rfl) ?_); intro w4 hb4 hk4 hs4)
        | ((with_reducible refine at_ 45 rfl ?_); go_must (refine step_append_rd (ok2 := fun k => w.heap.size ≤ k) rfl _ _ _ rfl 5 _ 1 1 Tryd.underlying22 row_byte rfl (by decide) (.slice A r.b.length c) r.b.length (Disk.bytes8 r.b) rfl (own_self (HO.out.kept hk4 (fun _ _ h => h))) _ 1 (Disk.bytes8 [x]) rfl (lit8 hb4 (Nat.le_refl _)) rfl (Disk.bytes8_one [x]) (by simp only [maxLen]; omega) (by omega) ?_); intro v5 w5 hO5 hk5; obtain ⟨A5, c5, rfl, _⟩ := hO5.slice; have hb5 := hk5.heap (hk4.heap HB.out (fun h => h)) (fun h => (HO.out.2 g h).2 rfl); have hk45 : Keeps S w w5 := (hk4.mono (fun _ _ h => h.elim)).trans hk5 (fun k _ h => (HO.out.2 k h).1); have gw : g < w.heap.size := lt_of HB.out; have hO5b : OwnRow w5 (fun k => (S k ∨ w.heap.size ≤ k) ∧ k ≠ g) 5 1 (.slice A5 (r.b.length + 1) c5) (r.b.length + 1) (Disk.bytes8 r.b ++ Disk.bytes8 [x]) := hO5.mono (fun k _ h => by rcases h with h | h; exact ⟨.inl (HO.out.2 k h).1, (HO.out.2 k h).2⟩; exact ⟨.inr (by omega), by omega⟩))
        | ((with_reducible refine at_store 22 (.tmp 47) (.tmp 45) rfl ?_); go_must (refine step_store1 rfl _ _ _ rfl g 3 (.slice A5 (r.b.length + 1) c5) _ _ rfl rfl rfl hb5 (by simp) info_bytes12 ?_); intro w6 hb6 hk6 hs6; have c6 : w6.cell? ⟨g, 2, none⟩ = some (.int .i64 1) := (cell_of_row w6 g 2 _ _ _ hb6).trans (by simp [HL1.out]))
        | ((with_reducible refine at_store 3 (.tmp 54) (.tmp 52) rfl ?_); go_must (refine step_store1 rfl _ _ _ rfl g 2 (.int .i64 0) _ _ rfl rfl rfl hb6 (by simp) info_int ?_); intro w7 hb7 hk7 hs7; have c7 : w7.cell? ⟨g, 2, none⟩ = some (.int .i64 0) := (cell_of_row w7 g 2 _ _ _ hb7).trans (by simp))
        | ((with_reducible refine at_store 3 (.tmp 62) (.const (.int .i64 4)) rfl ?_); go_must (refine step_store1 rfl _ _ _ rfl g 1 (.int .i64 4) _ _ rfl rfl rfl hb7 (by simp) info_int ?_); intro w8 hb8 hk8 hs8))
      go_ret
      rw [HT.out]
      have hk : Keeps (· = g) w5 w8 := (hk6.trans hk7 (fun _ _ h => h)).trans hk8 (fun _ _ h => h)
      exact ⟨rfl, ⟨_, hb8, .inl hg, by rw [List.length_append, Disk.bytes8_append]; exact (hO5b.kept hk (fun k hk e => hk.2 e)).mono (fun k _ h => h)⟩, hk45.trans (hk.mono (fun k _ e => by subst e; exact hg)) (fun _ _ h => h)⟩
    · have HT := Lib.hid (show Chunk.take r x = (0, { r with b := r.b ++ [x], left := r.left - 1, at_ := 3 }) by unfold Chunk.take; rw [if_neg (by omega), if_neg (by omega), if_neg (by omega), if_pos e, if_neg (by omega)])
      have hl2 : (r.left - 1 == 0) = false := by simp; omega
      have HAt := Lib.hid e
      rw [e] at c1
      clear e
      go_enter Tryd.func42, Tryd.ntmps42
      go_wp2_with (first
        | ((with_reducible refine at_ 44 rfl ?_); go_must (refine step_lit rfl 22 _ 1 rfl [.int .u8 x] rfl rfl (by decide) 5 _ 1 Tryd.underlying22 row2_byte (by decide) (by decide) (by intro v hv; rw [List.mem_singleton] at hv; subst hv; rfl) ?_); intro w4 hb4 hk4 hs4)
        | ((with_reducible refine at_ 45 rfl ?_); go_must (refine step_append_rd (ok2 := fun k => w.heap.size ≤ k) rfl _ _ _ rfl 5 _ 1 1 Tryd.underlying22 row_byte rfl (by decide) (.slice A r.b.length c) r.b.length (Disk.bytes8 r.b) rfl (own_self (HO.out.kept hk4 (fun _ _ h => h))) _ 1 (Disk.bytes8 [x]) rfl (lit8 hb4 (Nat.le_refl _)) rfl (Disk.bytes8_one [x]) (by simp only [maxLen]; omega) (by omega) ?_); intro v5 w5 hO5 hk5; obtain ⟨A5, c5, rfl, _⟩ := hO5.slice; have hb5 := hk5.heap (hk4.heap HB.out (fun h => h)) (fun h => (HO.out.2 g h).2 rfl); have hk45 : Keeps S w w5 := (hk4.mono (fun _ _ h => h.elim)).trans hk5 (fun k _ h => (HO.out.2 k h).1); have gw : g < w.heap.size := lt_of HB.out; have hO5b : OwnRow w5 (fun k => (S k ∨ w.heap.size ≤ k) ∧ k ≠ g) 5 1 (.slice A5 (r.b.length + 1) c5) (r.b.length + 1) (Disk.bytes8 r.b ++ Disk.bytes8 [x]) := hO5.mono (fun k _ h => by rcases h with h | h; exact ⟨.inl (HO.out.2 k h).1, (HO.out.2 k h).2⟩; exact ⟨.inr (by omega), by omega⟩))
        | ((with_reducible refine at_store 22 (.tmp 47) (.tmp 45) rfl ?_); go_must (refine step_store1 rfl _ _ _ rfl g 3 (.slice A5 (r.b.length + 1) c5) _ _ rfl rfl rfl hb5 (by simp) info_bytes12 ?_); intro w6 hb6 hk6 hs6; have c6 : w6.cell? ⟨g, 2, none⟩ = some (.int .i64 r.left) := (cell_of_row w6 g 2 _ _ _ hb6).trans (by simp))
        | ((with_reducible refine at_store 3 (.tmp 54) (.tmp 52) rfl ?_); go_must (refine step_store1 rfl _ _ _ rfl g 2 (.int .i64 (r.left - 1)) _ _ rfl rfl rfl hb6 (by simp) info_int ?_); intro w7 hb7 hk7 hs7; have c7 : w7.cell? ⟨g, 2, none⟩ = some (.int .i64 (r.left - 1)) := (cell_of_row w7 g 2 _ _ _ hb7).trans (by simp)))
      go_ret
      rw [HT.out]
      have hk : Keeps (· = g) w5 w7 := hk6.trans hk7 (fun _ _ h => h)
      have hA := HAt.out
      exact ⟨rfl, ⟨_, by rw [hA] at hb7; exact hb7, .inl hg, by rw [List.length_append, Disk.bytes8_append]; exact (hO5b.kept hk (fun k hk e => hk.2 e)).mono (fun k _ h => h)⟩, hk45.trans (hk.mono (fun k _ e => by subst e; exact hg)) (fun _ _ h => h)⟩
  · have HT := Lib.hid (show Chunk.take r x = Chunk.must r x 13 5 by unfold Chunk.take; rw [if_neg (by omega), if_neg (by omega), if_neg (by omega), if_neg (by omega), if_pos e])
    rw [e] at c1
    clear e
    go_enter Tryd.func42, Tryd.ntmps42
    go_wp2_with (go_at_call 46; refine Rets.use (must12_c HR.out x 13 5 h0 (by decide)) ?_; rintro v1 w1 ⟨rfl, hr1, hk1⟩)
    go_ret
    rw [HT.out]
    exact ⟨rfl, hr1, hk1⟩
  · have HT := Lib.hid (show Chunk.take r x = Chunk.must r x 10 0 by unfold Chunk.take; rw [if_neg (by omega), if_neg (by omega), if_neg (by omega), if_neg (by omega), if_neg (by omega), if_pos e])
    rw [e] at c1
    clear e
    go_enter Tryd.func42, Tryd.ntmps42
    go_wp2_with (go_at_call 46; refine Rets.use (must12_c HR.out x 10 0 h0 (by decide)) ?_; rintro v1 w1 ⟨rfl, hr1, hk1⟩)
    go_ret
    rw [HT.out]
    exact ⟨rfl, hr1, hk1⟩
  · by_cases hl : r.left = 0
    · have HT := Lib.hid (show Chunk.take r x = Chunk.must { r with left := -1 } x 13 6 by unfold Chunk.take; rw [if_neg (by omega), if_neg (by omega), if_neg (by omega), if_neg (by omega), if_neg (by omega), if_neg (by omega), if_pos ⟨e, hl⟩])
      have HAt := Lib.hid e
      rw [e] at c1
      rw [hl] at c2
      clear e hl
      go_enter Tryd.func42, Tryd.ntmps42
      go_wp2_with (first
        | ((with_reducible refine at_store 3 (.tmp 82) (.const (.int .i64 (-1))) rfl ?_); go_must (refine step_store1 rfl _ _ _ rfl g 2 (.int .i64 (-1)) _ _ rfl rfl rfl HB.out (by simp) info_int ?_); intro w2 hb2 hk2 hs2; have HR2 := Lib.hid (show RdIs w2 S g { r with left := -1 } from ⟨_, hb2, hg, HO.out.kept hk2 (fun k hk e => hk.2 e)⟩))
        | (go_at_call 46; refine Rets.use (must12_c HR2.out x 13 6 h0 (by decide)) ?_; rintro v1 w1 ⟨rfl, hr1, hk1⟩))
      go_ret
      rw [HT.out]
      exact ⟨rfl, hr1.mono (fun k _ h => h.imp id (fun h => by omega)), (hk2.mono (fun k _ e => by subst e; exact hg)).trans hk1 (fun _ _ h => h)⟩
    · have HT := Lib.hid (show Chunk.take r x = Chunk.must r x 10 7 by unfold Chunk.take; rw [if_neg (by omega), if_neg (by omega), if_neg (by omega), if_neg (by omega), if_neg (by omega), if_neg (by omega), if_neg (fun h => hl h.2)])
      have hl2 : (r.left == 0) = false := by simpa using hl
      rw [e] at c1
      clear e hl
      go_enter Tryd.func42, Tryd.ntmps42
      go_wp2_with (go_at_call 46; refine Rets.use (must12_c HR.out x 10 7 h0 (by decide)) ?_; rintro v1 w1 ⟨rfl, hr1, hk1⟩)
      go_ret
      rw [HT.out]
      exact ⟨rfl, hr1, hk1⟩
  · have HT := Lib.hid (show Chunk.take r x = Chunk.must r x 10 7 by unfold Chunk.take; rw [if_neg (by omega), if_neg (by omega), if_neg (by omega), if_neg (by omega), if_neg (by omega), if_neg (by omega), if_neg (by omega)])
    have e0 : (r.at_ == 0) = false := by simp; omega
    have e1 : (r.at_ == 1) = false := by simp; omega
    have e2 : (r.at_ == 2) = false := by simp; omega
    have e3 : (r.at_ == 3) = false := by simp; omega
    have e4 : (r.at_ == 4) = false := by simp; omega
    have e5 : (r.at_ == 5) = false := by simp; omega
    have e6 : (r.at_ == 6) = false := by simp; omega
    go_enter Tryd.func42, Tryd.ntmps42
    go_wp2_with (go_at_call 46; refine Rets.use (must12_c HR.out x 10 7 h0 (by decide)) ?_; rintro v1 w1 ⟨rfl, hr1, hk1⟩)
    go_ret
    rw [HT.out]
    exact ⟨rfl, hr1, hk1⟩
end
end Go.Proofs.YtibegbmehpggbaaDoor
