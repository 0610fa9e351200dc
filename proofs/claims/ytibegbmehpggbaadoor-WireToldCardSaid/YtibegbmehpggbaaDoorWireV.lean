/-
  The statements of package wire: lives; a reader that no call made.
-/
import Derived.Test.YtibegbmehpggbaaDoorWireL
namespace Go.Proofs.YtibegbmehpggbaaDoor
open Go.RowKit Go.Canon Go.Mem
set_option linter.unusedVariables false
set_option linter.unusedSimpArgs false
theorem info_reqC (r : ReqP) (v : Value) : (Tryd.prog.info? 44).map (·.size) = some (reqC r v).length := info_req
theorem row_req : (Tryd.prog.info? 44).map (fun i => i.zero) = some (some (.agg #[.string ⟨#[]⟩, .string ⟨#[]⟩, .string ⟨#[]⟩, .slice none 0 0])) := by kernel_rfl
theorem lits8 {w : World} {xs : List Int} {B n : Nat} {t : TypeId} {b : Nat} {fz : Nat × Nat} (hb : w.heap[b]? = some (.cells ((xs.map (Value.int .u8)).flatMap fun v => v.cells.toList).toArray t fz)) (hB : B ≤ b) (hn : xs.length = n) : Rd w (fun k => B ≤ k) (.slice (some ⟨b, 0, none⟩) n n) xs.length (Disk.bytes8 xs) := by
  have e : ((xs.map (Value.int .u8)).flatMap fun v => v.cells.toList) = Disk.bytes8 xs := by
    unfold Disk.bytes8
    clear hb hn
    induction xs with
    | nil => rfl
    | cons x l ih => rw [List.map_cons, List.flatMap_cons, ih]; rfl
  rw [e] at hb
  subst hn
  exact ⟨_, _, rfl, Nat.le_refl _, fun h => (by cases h), .inr ⟨b, 0, rfl, hB, fun j u hu => by rw [cell_of_row w _ _ _ _ _ hb, Nat.zero_add]; simpa using hu⟩⟩
def liveB : List Int := [71, 69, 84, 32, 47, 97, 32, 72, 84, 84, 80, 47, 49, 46, 49, 13, 10, 13, 10]
theorem lives_wire : Wire.whole liveB = (⟨[71, 69, 84], [47, 97], [], []⟩, 19, 0) := by decide +kernel
theorem live_byte : IsB liveB := fun x hx => of_decide_eq_true (List.all_eq_true.1 (show liveB.all (fun x => decide (0 ≤ x ∧ x < 256)) = true by decide) x hx)
theorem live_len : liveB.length = 19 := rfl
set_option maxHeartbeats 1600000 in
set_option maxRecDepth 100000 in
theorem lives13_c (w : World) : Calls Tryd.prog 13 #[] w (Rets (Yes w)) := by
  have HL := Lib.hid lives_wire
  go_enter Tryd.func13, Tryd.ntmps13
  go_wp2_with (first
    | ((with_reducible refine at_ 5 rfl ?_); go_must (refine step_lit rfl 22 _ 19 rfl (liveB.map (Value.int .u8)) rfl rfl (by decide) 5 _ 1 Tryd.underlying22 row2_byte (by decide) (by decide) (by intro v hv; obtain ⟨x, _, rfl⟩ := List.mem_map.1 hv; rfl) ?_); intro w1 hb1 hk1 hs1)
    | ((with_reducible refine at_ 6 rfl ?_); go_must (refine step_bytes_bytes rfl 22 _ rfl 5 Tryd.underlying22 Tryd.underlying5 w.heap.size 19 19 rfl _ _ hb1 ?_); intro w2 hb2 hk2 hs2; have hr2 := lits8 (B := w.heap.size) (n := 19) hb2 (Nat.le_refl _) rfl)
    | (go_at_call 20; go_loud (refine Rets.use (wholeW_c _ liveB hr2 (by rw [live_len]; decide) live_byte) ?_); intro v w3 h3; rw [HL.out] at h3; obtain ⟨hk3, u, rfl, hO3⟩ := (show Keeps (fun _ => False) w2 w3 ∧ ∃ u, v = .tuple #[reqV ⟨[71, 69, 84], [47, 97], [], []⟩ u, .int .i64 19, .int .i64 0] ∧ OwnRow w3 (fun k => w2.heap.size ≤ k) 5 1 u 0 (Disk.bytes8 []) from h3); obtain ⟨A3, c3, rfl, _⟩ := hO3.slice)
    | ((with_reducible refine at_ 1 rfl ?_); go_must (refine step_alloc rfl _ rfl _ zq row_req rfl ?_); intro w4 hb4 hk4 hs4)
    | ((with_reducible refine at_store 44 (.tmp 1) (.tmp 8) rfl ?_); go_must (refine step_store rfl _ _ _ rfl w3.heap.size 0 (reqC ⟨[71, 69, 84], [47, 97], [], []⟩ (.slice A3 0 c3)) _ _ rfl rfl hb4 (by simp [zq, reqC]) (info_reqC _ _) (by simp [reqC, Value.oneCell']) ?_); intro w5 hb5 hk5 hs5; rw [put_whole (by rfl)] at hb5; have c1 : w5.cell? ⟨w3.heap.size, 1, none⟩ = some (.string ⟨#[47, 97]⟩) := (cell_of_row w5 _ 1 _ _ _ hb5).trans rfl))
  go_ret
  exact ⟨rfl, (((hk1.trans hk2 (fun k hk e => by omega)).trans hk3 (fun _ _ h => h)).trans hk4 (fun _ _ h => h)).trans hk5 (fun k hk e => by have := hk3.size; have := hk2.size; have := hk1.size; omega)⟩
/-- A new block, that is set. -/
theorem fresh_set {w w1 w2 w3 : World} (h : Keeps (fun _ => False) w w1) (h1 : Keeps (fun _ => False) w1 w2) (h2 : Keeps (fun k => k = w1.heap.size) w2 w3) : Keeps (fun _ => False) w w3 :=
  (((h.trans h1 (fun _ _ h => h)).mono (S' := fun k => w.heap.size ≤ k) (fun _ _ h => h.elim)).trans h2 (fun k _ e => by subst e; exact h.size)).mono (fun k hk h => absurd hk (Nat.not_lt.2 h))
/-- No reader, or one that no call made. -/
def NoW (w : World) (p : Value) : Prop := p = .pointer none ∨ ∃ g, p = .pointer (some ⟨g, 0, none⟩) ∧ w.cell? ⟨g, 0, none⟩ = some (.bool false) ∧ w.cell? ⟨g, 2, none⟩ = some (.bool false) ∧ w.cell? ⟨g, 3, none⟩ = some (.int .i64 0)
theorem NoW.kept {w w' : World} {p : Value} (h : NoW w p) (hk : Keeps (fun _ => False) w w') : NoW w' p := by
  rcases h with h | ⟨g, h, h0, h2, h3⟩
  · exact .inl h
  · exact .inr ⟨g, h, hk.cell h0 (fun h => h), hk.cell h2 (fun h => h), hk.cell h3 (fun h => h)⟩
theorem putW_un {w : World} {p : Value} (h : NoW w p) (x : Int) : Calls Tryd.prog 27 #[p, .int .u8 x] w (Rets (Only (.tuple #[.bool false, .int .i64 1]) w)) := by
  rcases h with rfl | ⟨g, rfl, h0, h2, h3⟩
  · exact putW_nil w x
  · exact putW_plain h0 x
theorem takeW_un {w : World} {p : Value} (h : NoW w p) : Calls Tryd.prog 28 #[p] w (Rets (NoTake w)) := by
  rcases h with rfl | ⟨g, rfl, h0, h2, h3⟩
  · exact takeW_nil w
  · exact takeW_cell h2
end Go.Proofs.YtibegbmehpggbaaDoor
