/-
  The document's reader of requests: the body.
-/
import Derived.Test.YtibegbmehpggbaaWireX
import Derived.Test.YtibegbmehpggbaaWireL
import Derived.Test.YtibegbmehpggbaaChunkG
namespace Go.Proofs.Ytibegbmehpggbaa
open Go.RowKit Go.Canon Go.Mem
set_option linter.unusedVariables false
set_option linter.unusedSimpArgs false
section
variable {P : Program} {ops : Array Oper} {op : Oper} {rest : List Oper} {a : Act} {w : World} {Q : Exit → Act → World → Prop}
/-- x[i:j] of a slice that is read. -/
theorem step_slice_mid {ok : Nat → Prop} (hgd : Region.wanted op (yielded ops a.tmps) = true) (ty : TypeId) (x l h : Operand) (ho : op.op = .slice ty x (some l) (some h) none) (ht : P.underlying ty = some (.slice (P.elem ty))) (hi : (P.info? (P.elem ty)).map (·.size) = some 1)
    (A : Option Addr) (n c i j : Nat) (kl kh : IntKind) (cs : List Value) (hx : a.eval x = .slice A n c) (hl : a.eval l = .int kl (i : Int)) (hh : a.eval h = .int kh (j : Int)) (hij : i ≤ j) (hj : j ≤ n) (hr : Rd w ok (.slice A n c) n cs) (hc : cs.length = n)
    (hk : ∀ v, Rd w ok v (j - i) ((cs.take j).drop i) → wpList P ops Q rest (a.put op.dst v) w) : wpList P ops Q (op :: rest) a w := by
  refine plain_ hgd fun K hK => ?_
  have hnc : n ≤ c := by obtain ⟨_, _, e, h, _⟩ := hr; cases e; exact h
  have hrun : (Instr.sliceAt ty (.slice A n c) (some (.int kl (i : Int))) (some (.int kh (j : Int))) none).run P w = .ok (sliced A i j c 1) w := by
    rw [run_sliceAt_slice w ty _ _ _ _ ht, run_slice_lh w ty A n c ht kl kh i j (by omega) (by omega) (by omega)]
    cases hq : P.info? (P.elem ty) with
    | none => simp [hq] at hi
    | some q =>
      have hs : q.size = 1 := by simpa [hq] using hi
      simp [sizeOf, typeInfo, hq, hs]
  unfold Oper.wp execOp
  simp only [ho, hx, hl, hh, Option.map_some, Option.map_none, Sem.run_bind, hrun, Result.andThen_ok, Sem.run_pure]
  have h1 := Rd.front hr j 1 hj (by omega)
  rw [Nat.mul_one] at h1
  exact hK _ _ (hk _ (Rd.tail h1 i hij (by rw [List.length_take]; omega)))
end
theorem info_elem : (Try.prog.info? (Try.prog.elem 22)).map (·.size) = some 1 := by kernel_rfl
theorem under_elem : Try.prog.underlying 22 = some (.slice (Try.prog.elem 22)) := by kernel_rfl
theorem drop8 (l : List Int) (k : Nat) : (Disk.bytes8 l).drop k = Disk.bytes8 (l.drop k) := by unfold Disk.bytes8; rw [List.map_drop]
theorem mid8 (l : List Int) (i j : Nat) : ((Disk.bytes8 l).take j).drop i = Disk.bytes8 ((l.drop i).take (j - i)) := by unfold Disk.bytes8; rw [← List.map_take, ← List.map_drop, List.drop_take]
theorem chgo_le : ∀ (l : List Int) (c : Chunk.Rd) (i : Int), 0 ≤ i → 0 ≤ (Chunk.go c l i).2.1 ∧ (Chunk.go c l i).2.1 ≤ i + l.length := by
  intro l
  induction l with
  | nil => intro c i hi; simp [Chunk.go]; exact hi
  | cons x l ih =>
    intro c i hi
    rw [Chunk.go]
    have h1 := ih (Chunk.put c x).2 (i + 1) (by omega)
    rw [List.length_cons]
    split
    · exact ⟨Int.le_refl 0, by show (0 : Int) ≤ _; omega⟩
    · split
      · exact ⟨by show 0 ≤ i + 1; omega, by show i + 1 ≤ _; omega⟩
      · omega
theorem chwhole_le (l : List Int) : 0 ≤ (Chunk.whole l 2048).2.1 ∧ (Chunk.whole l 2048).2.1 ≤ l.length := by
  unfold Chunk.whole
  rw [if_neg (by omega)]
  have := chgo_le l ⟨2048, 0, 0, []⟩ 0 (by omega)
  omega
/-- A body that is read behind a head, at a place. -/
def BodyIs (w : World) (g : Nat) (a : Nat) (t : ReqP × Int × Int) : Value → World → Prop := fun v w' => Keeps (fun k => k = g) w w' ∧ ∃ u, v = (if t.2.2 = 0 then .tuple #[reqV t.1 u, .int .i64 ((a : Int) + t.2.1), .int .i64 0] else .tuple #[reqV Wire.zeroR u, .int .i64 0, .int .i64 t.2.2]) ∧ (if t.2.2 = 0 then OwnRow w' (fun k => w.heap.size ≤ k) 5 1 u t.1.body.length (Disk.bytes8 t.1.body) else u = .slice none 0 0)
set_option maxHeartbeats 6400000 in
set_option maxRecDepth 100000 in
theorem rbody_c {w : World} {g : Nat} {s : Wire.S} {ok : Nat → Prop} (h : HIs w g s) (hok : ∀ k, ok k → k < w.heap.size) (v : Value) (l : List Int) (a : Nat) (ha : a ≤ l.length) (hr : Rd w ok v l.length (Disk.bytes8 l)) (hl : l.length ≤ 900000) (hB : IsB l) (hn0 : 0 ≤ s.left) (hn1 : s.left ≤ 2048) : Calls Try.prog 36 #[.pointer (some ⟨g, 0, none⟩), v, .int .i64 a] w (Rets (BodyIs w g a (Wire.bodyF s (l.drop a)))) := by
  obtain ⟨A, c, rfl, _⟩ := hr.slice
  have hgl := lt_of h
  obtain ⟨w1, hw1⟩ : ∃ w1, w1 = w.alloc (.cells #[.string ⟨#[]⟩, .string ⟨#[]⟩, .string ⟨#[]⟩, .slice none 0 0] 26) := ⟨_, rfl⟩
  obtain ⟨hb1, hk1, hs1⟩ := alloc1 hw1
  have HW := Lib.hid hw1
  have HB1 := Lib.hid hb1
  have hh1 := hk1.heap h (fun h => h)
  have HB := Lib.hid hh1
  have HR := Lib.hid (hr.kept hk1 (fun _ _ h => h))
  have c6 : w1.cell? ⟨g, 6, none⟩ = some (.bool s.se) := (cell_of_row w1 g 6 _ _ _ hh1).trans rfl
  have c7 : w1.cell? ⟨g, 7, none⟩ = some (.int .i64 s.left) := (cell_of_row w1 g 7 _ _ _ hh1).trans rfl
  rw [hw1] at c6 c7
  have hByte : Byte (l.drop a) := fun x hx => by have := hB.drop a x hx; omega
  have HBy := Lib.hid hByte
  clear hw1 hb1 hr h hh1 hByte
  cases hse : s.se with
  | true =>
    rw [hse] at c6
    clear c7
    have HQ0 := Lib.hid (show Wire.bodyF s (l.drop a) = if (Chunk.whole (l.drop a) 2048).2.2 ≠ 0 then (Wire.zeroR, 0, (Chunk.whole (l.drop a) 2048).2.2) else ({ s.x with body := (Chunk.whole (l.drop a) 2048).1 }, (Chunk.whole (l.drop a) 2048).2.1, 0) by unfold Wire.bodyF; rw [if_pos hse])
    obtain ⟨t, ht⟩ : ∃ t, Chunk.whole (l.drop a) 2048 = t := ⟨_, rfl⟩
    have hle := chwhole_le (l.drop a)
    rw [ht] at HQ0 hle
    have HT := Lib.hid ht
    clear ht
    obtain ⟨tb, tn, te⟩ := t
    obtain ⟨hle1, hle2⟩ := hle
    simp only at hle1 hle2
    have hdl : (l.drop a).length ≤ l.length := by rw [List.length_drop]; omega
    have hle3 : tn ≤ l.length := by omega
    clear hle2 hdl
    by_cases he : te = 0
    · subst he
      have HQ := Lib.hid (show Wire.bodyF s (l.drop a) = ({ s.x with body := tb }, tn, 0) from HQ0.out)
      clear HQ0
      go_enter Try.func36, Try.ntmps36
      go_wp2_with (first
        | (first | ((with_reducible refine at_ 19 rfl ?_); rw [← HW.out]; go_must (refine step_slice_from rfl _ _ _ rfl 5 under_elem info_elem A l.length c a _ (Disk.bytes8 l) rfl rfl ha HR.out (Disk.bytes8_len l) ?_); intro v5 hr5; rw [drop8] at hr5; have HR5 := Lib.hid (show Rd w1 ok v5 (l.drop a).length (Disk.bytes8 (l.drop a)) by rw [List.length_drop]; exact hr5); clear hr5) | (go_at_call 48; refine Rets.use (rwhole_c (fun k hk => Nat.lt_of_lt_of_le (hok k hk) hk1.size) v5 (l.drop a) 2048 HR5.out (by rw [List.length_drop]; omega) HBy.out) ?_; rw [HT.out]; rintro v2 w2 ⟨hk2, u, rfl, hO2⟩; have HO2 := Lib.hid hO2; obtain ⟨Au, cu, rfl, _⟩ := hO2.slice; have HB2 := Lib.hid (hk2.heap HB.out (fun h => h)); have HBr := Lib.hid (hk2.heap HB1.out (fun h => h)); clear hO2))
        | ((with_reducible refine at_store 22 (.tmp 32) (.tmp 29) rfl ?_); go_must (refine step_store1 rfl _ _ _ rfl g 3 (.slice Au tb.length cu) _ _ rfl rfl rfl HB2.out (by simp [hcells]) info_bytes12 ?_); intro w3 hb3 hk3 hs3; have HB3 := Lib.hid hb3; have HR3 := Lib.hid (hk3.heap HBr.out (fun h => by omega)); clear hb3)
        | ((with_reducible refine at_ 36 rfl ?_); go_must (refine step_load rfl _ _ rfl g 0 (reqC { s.x with body := tb } (.slice Au tb.length cu)) _ _ (0, 0) _ rfl HB3.out rfl Try.underlying26 rfl info_req ?_))
        | ((with_reducible refine at_store 26 (.tmp 6) (.tmp 36) rfl ?_); go_must (refine step_store rfl _ _ _ rfl w.heap.size 0 (reqC { s.x with body := tb } (.slice Au tb.length cu)) _ _ rfl rfl HR3.out (by simp [reqC]) info_req (by simp [reqC, Value.oneCell']) ?_); intro w4 hb4 hk4 hs4; rw [put_whole (by rfl)] at hb4))
      refine bodyPost_ret (ret_cell_tmp2 rfl (reqC { s.x with body := tb } (.slice Au tb.length cu)) _ rfl hb4 Try.underlying26 rfl info_req) rfl ?_
      rw [HQ.out]
      have hz2 := hk2.size
      have hkA : Keeps (fun k => k = g ∨ w.heap.size ≤ k) w w4 := (((hk1.trans hk2 (fun _ _ h => h)).mono (fun _ _ h => h.elim)).trans hk3 (fun k _ h => .inl h)).trans hk4 (fun k _ h => .inr (by omega))
      exact ⟨hkA.mono (fun k hk h => h.resolve_right (by omega)), .slice Au tb.length cu, by rw [if_pos rfl]; rfl, by rw [if_pos rfl]; exact ((HO2.out.kept hk3 (fun k h h' => by omega)).kept hk4 (fun k h h' => by omega)).mono (fun k _ h => by omega)⟩
    · have HQ := Lib.hid (show Wire.bodyF s (l.drop a) = (Wire.zeroR, 0, te) from HQ0.out.trans (if_pos he))
      have hne : (te != 0) = true := by simpa using he
      have HNe := Lib.hid he
      clear HQ0 he
      go_enter Try.func36, Try.ntmps36
      go_wp2_with (first
        | (first | ((with_reducible refine at_ 19 rfl ?_); rw [← HW.out]; go_must (refine step_slice_from rfl _ _ _ rfl 5 under_elem info_elem A l.length c a _ (Disk.bytes8 l) rfl rfl ha HR.out (Disk.bytes8_len l) ?_); intro v5 hr5; rw [drop8] at hr5; have HR5 := Lib.hid (show Rd w1 ok v5 (l.drop a).length (Disk.bytes8 (l.drop a)) by rw [List.length_drop]; exact hr5); clear hr5) | (go_at_call 48; refine Rets.use (rwhole_c (fun k hk => Nat.lt_of_lt_of_le (hok k hk) hk1.size) v5 (l.drop a) 2048 HR5.out (by rw [List.length_drop]; omega) HBy.out) ?_; rw [HT.out]; rintro v2 w2 ⟨hk2, u, rfl, hO2⟩; have HO2 := Lib.hid hO2; obtain ⟨Au, cu, rfl, _⟩ := hO2.slice; have HB2 := Lib.hid (hk2.heap HB.out (fun h => h)); have HBr := Lib.hid (hk2.heap HB1.out (fun h => h)); clear hO2))
        | ((with_reducible refine at_store 26 (.tmp 6) (.tmp 26) rfl ?_); go_must (refine step_store rfl _ _ _ rfl w.heap.size 0 zq _ _ rfl rfl HBr.out (by simp [zq]) info_req (by simp [zq, Value.oneCell']) ?_); intro w4 hb4 hk4 hs4; rw [put_whole (by rfl)] at hb4))
      refine bodyPost_ret (ret_cell_tmp2 rfl zq _ rfl hb4 Try.underlying26 rfl info_req) rfl ?_
      rw [HQ.out]
      have hkA : Keeps (fun k => w.heap.size ≤ k) w w4 := ((hk1.trans hk2 (fun _ _ h => h)).mono (fun _ _ h => h.elim)).trans hk4 (fun k _ h => by omega)
      exact ⟨hkA.mono (fun k hk h => by omega), .slice none 0 0, by rw [if_neg HNe.out]; rfl, by rw [if_neg HNe.out]⟩
  | false =>
    rw [hse] at c6
    obtain ⟨m, hm⟩ : ∃ m : Nat, s.left = m := ⟨s.left.toNat, by omega⟩
    rw [hm] at c7
    have hld : (l.drop a).length = l.length - a := List.length_drop
    have hm1 : m ≤ 2048 := by omega
    by_cases hlt : l.length < a + m
    · have HQ := Lib.hid (show Wire.bodyF s (l.drop a) = (Wire.zeroR, 0, 3) by unfold Wire.bodyF; rw [if_neg (by rw [hse]; simp), if_pos (by rw [hm, hld]; omega)])
      clear hld hm
      go_enter Try.func36, Try.ntmps36
      go_wp2_with ((with_reducible refine at_store 26 (.tmp 6) (.tmp 49) rfl ?_); rw [← HW.out]; go_must (refine step_store rfl _ _ _ rfl w.heap.size 0 zq _ _ rfl rfl HB1.out (by simp [zq]) info_req (by simp [zq, Value.oneCell']) ?_); intro w4 hb4 hk4 hs4; rw [put_whole (by rfl)] at hb4)
      refine bodyPost_ret (ret_cell_tmp2 rfl zq _ rfl hb4 Try.underlying26 rfl info_req) rfl ?_
      rw [HQ.out]
      have hkA : Keeps (fun k => w.heap.size ≤ k) w w4 := (hk1.mono (fun _ _ h => h.elim)).trans hk4 (fun k _ h => by omega)
      exact ⟨hkA.mono (fun k hk h => by omega), .slice none 0 0, by rw [if_neg (by decide)]; rfl, by rw [if_neg (by decide)]⟩
    · have HQ := Lib.hid (show Wire.bodyF s (l.drop a) = ({ s.x with body := (l.drop a).take m }, (m : Int), 0) by unfold Wire.bodyF; rw [if_neg (by rw [hse]; simp), if_neg (by rw [hm, hld]; omega), hm, Int.toNat_natCast])
      have HLe := Lib.hid (show ((l.drop a).take m).length = m by rw [List.length_take, hld]; omega)
      have HM := Lib.hid hm
      clear hld hm hse
      generalize hbb : (l.drop a).take m = tb at *
      have HBB := Lib.hid hbb
      clear hbb
      go_enter Try.func36, Try.ntmps36
      go_wp2_with (first
        | ((with_reducible refine at_ 59 rfl ?_); rw [← HW.out]; go_must (refine step_slice_mid rfl _ _ _ _ rfl under_elem info_elem A l.length c a (a + m) _ _ (Disk.bytes8 l) rfl rfl rfl (by omega) (by omega) HR.out (Disk.bytes8_len l) ?_); intro v5 hr5; rw [mid8, show a + m - a = m by omega, HBB.out] at hr5; have HR5 := Lib.hid (show Rd w1 ok v5 tb.length (Disk.bytes8 tb) by rw [HLe.out]; exact hr5); clear hr5)
        | (go_at_call 12; refine Rets.use (copy_c v5 tb HR5.out (by rw [HLe.out]; omega)) ?_; rintro v2 w2 ⟨hO2, hk2⟩; have HO2 := Lib.hid hO2; obtain ⟨Au, cu, rfl, _⟩ := hO2.slice; have HB2 := Lib.hid (hk2.heap HB.out (fun h => h)); have HBr := Lib.hid (hk2.heap HB1.out (fun h => h)); clear hO2)
        | ((with_reducible refine at_store 22 (.tmp 63) (.tmp 60) rfl ?_); go_must (refine step_store1 rfl _ _ _ rfl g 3 (.slice Au tb.length cu) _ _ rfl rfl rfl HB2.out (by simp [hcells]) info_bytes12 ?_); intro w3 hb3 hk3 hs3; have HB3 := Lib.hid hb3; have HR3 := Lib.hid (hk3.heap HBr.out (fun h => by omega)); clear hb3))
      refine Canon.region [10] [(⟨g, 7, none⟩, .int .i64 (m : Int))] [(8, 0)] (.hold [0, 1, 2, 4, 5, 6, 7, 3, 8, 9] (.loud 10 (.seg [11, 12] .stop))) (by kernel_rfl) (by kernel_rfl) (by repeat (first | (with_reducible exact Safe.body) | (with_reducible apply Safe.then) | (with_reducible apply Safe.inBlock) | (dsimp +zetaDelta only))) ?_
      simp only [Canon.pick, Canon.wpPlan, List.getElem?_toArray, List.getElem?_cons_zero, List.getElem?_cons_succ]
      have KD : Keeps (fun _ => False) w3 w3.drew := (Keeps.refl _ w3).drew
      have HB4 := Lib.hid (KD.heap HB3.out (fun h => h))
      have HR4 := Lib.hid (KD.heap HR3.out (fun h => h))
      have c7 : w3.drew.cell? ⟨g, 7, none⟩ = some (.int .i64 (m : Int)) := by rw [← HM.out]; exact (cell_of_row w3.drew g 7 _ _ _ HB4.out).trans rfl
      have HL := Lib.hid (show Cells [(⟨g, 7, none⟩, Value.int .i64 (m : Int))] w3.drew by
        intro p hp
        rw [List.mem_singleton] at hp
        subst hp
        exact c7)
      refine ⟨HL.out, ?_⟩
      go_wp2_with (first
        | ((with_reducible refine at_ 67 rfl ?_); go_must (refine step_load rfl _ _ rfl g 0 (reqC { s.x with body := tb } (.slice Au tb.length cu)) _ _ (0, 0) _ rfl HB4.out rfl Try.underlying26 rfl info_req ?_))
        | ((with_reducible refine at_store 26 (.tmp 6) (.tmp 67) rfl ?_); go_must (refine step_store rfl _ _ _ rfl w.heap.size 0 (reqC { s.x with body := tb } (.slice Au tb.length cu)) _ _ rfl rfl HR4.out (by simp [reqC]) info_req (by simp [reqC, Value.oneCell']) ?_); intro w4 hb4 hk4 hs4; rw [put_whole (by rfl)] at hb4))
      refine ⟨fun p hp => ?_, ?_⟩
      · rw [List.mem_singleton] at hp
        subst hp
        exact hk4.cell c7 (fun h => by have h2 : g = w.heap.size := h; omega)
      go_wp2
      refine ⟨by rfl, ⟨fun _ => rfl, trivial⟩, ?_⟩
      go_wp2
      refine bodyPost_ret (ret_cell_tmp2 rfl (reqC { s.x with body := tb } (.slice Au tb.length cu)) _ rfl hb4 Try.underlying26 rfl info_req) rfl ?_
      rw [HQ.out]
      have hz2 := hk2.size
      have hkA : Keeps (fun k => k = g ∨ w.heap.size ≤ k) w w4 := ((((hk1.trans hk2 (fun _ _ h => h)).mono (fun _ _ h => h.elim)).trans hk3 (fun k _ h => .inl h)).drew).trans hk4 (fun k _ h => .inr (by omega))
      exact ⟨hkA.mono (fun k hk h => h.resolve_right (by omega)), .slice Au tb.length cu, by rw [if_pos rfl]; rfl, by rw [if_pos rfl]; exact (((HO2.out.kept hk3 (fun k h h' => by omega)).kept KD (fun _ _ h => h)).kept hk4 (fun k h h' => by omega)).mono (fun k _ h => by omega)⟩
end Go.Proofs.Ytibegbmehpggbaa
