/-
  The statements of layer 9: lives; DiskNobody.
-/
import Derived.Test.YtmkpdoljaccpaaaDiskN
import Derived.Test.YtmkpdoljaccpaaaArgs
namespace Go.Proofs.Ytmkpdoljaccpaaa
open Go.RowKit Go.Canon Go.Mem Go.Args
set_option linter.unusedVariables false
set_option linter.unusedSimpArgs false
abbrev KDo : Kd := .st (.fld (.int .i64) (.fld (.int .i64) (.fld (.slice (.int .u8)) (.fld (.slice .bool) .fin))))
/-- It is true, and nothing that was there has turned. -/
abbrev Yes (w : World) : Value → World → Prop := fun v w' => v = .bool true ∧ Keeps (fun _ => False) w w'
theorem lives_write : ((fresh 1).write 0 [7]).1 = 0 ∧ ((fresh 1).write 0 [7]).2.opn.length = 1 := by
  unfold Disk.St.write fresh Disk.St.step
  simp
set_option maxHeartbeats 800000 in
theorem lives09_c (w : World) : Calls Try.prog 20 #[] w (Rets (Yes w)) := by
  have HL := Lib.hid lives_write
  go_enter Try.func20, Try.ntmps20
  go_wp2_with (first
    | (go_at_call 30; refine Rets.use (dNew_c 1 (by decide) (by decide) _) ?_; rintro v w1 ⟨hk1, g, rfl, hd1⟩)
    | ((with_reducible refine at_ 11 rfl ?_); go_must (refine step_lit rfl 38 _ 1 rfl [.int .u8 7] rfl rfl (by decide) 5 _ 1 Try.underlying38 row2_byte (by decide) (by decide) (by intro v hv; rw [List.mem_singleton] at hv; subst hv; rfl) ?_); intro w2 hb2 hk2 hs2; have hr2 : Rd w2 (· = w1.heap.size) (.slice (some ⟨w1.heap.size, 0, none⟩) 1 1) 1 (Disk.bytes8 [7]) := ⟨_, _, rfl, by decide, fun h => (by cases h), .inr ⟨_, _, rfl, rfl, fun j u hu => by rw [cell_of_row w2 _ _ _ _ _ hb2, Nat.zero_add]; simpa [Value.cells, Disk.bytes8] using hu⟩⟩)
    | (go_at_call 25; refine Rets.use (dWrite_c (hd1.kept hk2 (fun _ _ h => h)) 0 _ [7] hr2 (fun k e hh => by omega) (by decide) (by decide)) ?_; rintro v w3 ⟨rfl, hd3, hk3⟩; rw [HL.out.1])
    | (go_at_call 15; refine Rets.use (dOpen_c hd3) ?_; rintro v w4 ⟨rfl, rfl⟩; rw [HL.out.2]))
  go_ret
  exact ⟨rfl, ((hk1.trans hk2 (fun _ _ h => h)).trans hk3 (fun k hk h => by omega))⟩

/-! ### a call of the statements' own -/
theorem do_cells {W : World} {cs : List Value} {x : KDo.Dat} (H : Has W KDo cs x) : ∃ vB vK, cs = [.int .i64 x.1, .int .i64 x.2.1, vB, vK] ∧ Has W (.slice (.int .u8)) [vB] x.2.2.1 ∧ Has W (.slice .bool) [vK] x.2.2.2.1 ∧ (Lit.int .i64 x.2.1).wf = true := by
  obtain ⟨c1, r1, rfl, _, ⟨rfl, _⟩, c2, r2, rfl, _, ⟨rfl, w2⟩, c3, r3, rfl, _, h3, c4, r4, rfl, _, h4, h5⟩ := H
  obtain ⟨A, c, e3, h3'⟩ := h3
  obtain ⟨B, d, e4, h4'⟩ := h4
  have h5' : r4 = [] := h5
  subst e3; subst e4; subst h5'
  exact ⟨_, _, rfl, ⟨A, c, rfl, h3'⟩, ⟨B, d, rfl, h4'⟩, w2⟩
theorem i64_le {n : Int} (h : (Lit.int .i64 n).wf = true) : -9223372036854775808 ≤ n ∧ n ≤ 9223372036854775807 := by
  simp [Lit.wf, IntKind.min, IntKind.max, IntKind.signed, IntKind.bits] at h
  omega
set_option maxHeartbeats 1600000 in
set_option maxRecDepth 100000 in
theorem nobody_walk (W : World) (cs : Array Value) (x : KDo.Dat) (H : Has W KDo (Value.agg cs).cells.toList x) : Calls Try.prog 7 #[.agg cs] W (Rets (Yes W)) := by
  obtain ⟨vB, vK, e, hB, hK, wa⟩ := do_cells H
  obtain rfl : cs = #[.int .i64 x.1, .int .i64 x.2.1, vB, vK] := by apply Array.ext'; exact e
  obtain ⟨kind, at_, b, keep, u⟩ := x
  simp only at *
  obtain ⟨rB, lB⟩ := hB.bytes
  obtain ⟨a1, a2⟩ := i64_le wa
  have HR := Lib.hid rB
  clear e H rB hB hK wa
  obtain ⟨w2, hw2⟩ : ∃ w2, w2 = W.alloc (Obj.cells #[.int .i64 kind, .int .i64 at_, vB, vK] 40) := ⟨_, rfl⟩
  have hb : w2.heap[W.heap.size]? = some (.cells #[.int .i64 kind, .int .i64 at_, vB, vK] 40 (0, 0)) := by rw [hw2]; exact heap_alloc_new W _
  have hk : Keeps (fun _ => False) W w2 := by rw [hw2]; exact (Keeps.refl _ W).alloc _
  have c1 : w2.cell? ⟨W.heap.size, 1, none⟩ = some (.int .i64 at_) := cell_of_row w2 _ _ _ _ _ hb
  have c2 : w2.cell? ⟨W.heap.size, 2, none⟩ = some vB := cell_of_row w2 _ _ _ _ _ hb
  have HR2 := Lib.hid (HR.out.kept hk (fun _ _ h => h))
  have HW := Lib.hid hw2
  clear HR hw2 hb
  go_enter Try.func7, Try.ntmps7
  go_wp2_with (first
    | (go_at_call 24; go_loud (rw [← HW.out]; refine Rets.use (cut_c vB b HR2.out 100) ?_; rintro vC w3 ⟨hC, rfl⟩)))
  go_loopw [4] (fun i wr => ∃ k : Nat, k ≤ 2 ∧ i = .int .i64 k ∧ Keeps (fun _ => False) w2 wr) (fun i _ => 2 - (intOf i).toNat)
  case atStart => exact ⟨0, by omega, rfl, Keeps.refl _ w2⟩
  case round =>
    obtain ⟨k, hk2, rfl, hK⟩ := hrel
    have c1' : wr.cell? ⟨W.heap.size, 1, none⟩ = some (.int .i64 at_) := hK.cell c1 (fun h => h)
    have HR3 := Lib.hid hK
    have HK1 := Lib.hid hk
    rcases (show k = 0 ∨ k = 1 ∨ k = 2 by omega) with rfl | rfl | rfl
    · have HNO := Lib.hid (show NoDisk wr (.pointer none) from .inl rfl)
      go_wp2_with (first
        | (go_at_call 29; refine Rets.use (read_no HNO.out at_) ?_; rintro v w6 ⟨rfl, rfl⟩)
        | (go_at_call 25; refine Rets.use (write_nob HNO.out at_ vC) ?_; rintro v w6 ⟨rfl, rfl⟩)
        | (go_at_call 14; refine Rets.use (sync_no HNO.out) ?_; rintro v w6 ⟨rfl, rfl⟩)
        | (go_at_call 27; refine Rets.use (arm_no HNO.out at_) ?_; rintro v w6 ⟨rfl, rfl⟩)
        | (go_at_call 17; refine Rets.use (crash_no HNO.out _) ?_; rintro v w6 ⟨rfl, rfl⟩)
        | (go_at_call 33; refine Rets.use (sectors_no HNO.out) ?_; rintro v w6 ⟨rfl, rfl⟩)
        | (go_at_call 15; refine Rets.use (open_no HNO.out) ?_; rintro v w6 ⟨rfl, rfl⟩)
        | (go_at_call 28; refine Rets.use (off_no HNO.out) ?_; rintro v w6 ⟨rfl, rfl⟩))
      go_roundw
      case rel => exact ⟨1, by omega, rfl, HR3.out⟩
      case measure => simp [intOf]
    · obtain ⟨w5, hw5⟩ : ∃ w5, w5 = wr.alloc (Obj.cells #[.slice none 0 0, .slice none 0 0, .slice none 0 0, .bool false, .int .i64 0, .bool false] 61) := ⟨_, rfl⟩
      have hb5 : w5.heap[wr.heap.size]? = some (.cells #[.slice none 0 0, .slice none 0 0, .slice none 0 0, .bool false, .int .i64 0, .bool false] 61 (0, 0)) := by rw [hw5]; exact heap_alloc_new wr _
      have hk5 : Keeps (fun _ => False) wr w5 := by rw [hw5]; exact (Keeps.refl _ wr).alloc _
      have HNO := Lib.hid (show NoDisk w5 (.pointer (some ⟨wr.heap.size, 0, none⟩)) from .inr ⟨_, rfl, cell_of_row w5 _ _ _ _ _ hb5⟩)
      have c5 : w5.cell? ⟨W.heap.size, 1, none⟩ = some (.int .i64 at_) := hk5.cell c1' (fun h => h)
      have c6 := c5
      rw [hw5] at c6
      have HK5 := Lib.hid hk5
      have HW5 := Lib.hid hw5
      clear hw5 hb5
      go_wp2_with (first
        | (go_at_call 29; rw [← HW5.out]; refine Rets.use (read_no HNO.out at_) ?_; rintro v w6 ⟨rfl, rfl⟩)
        | (go_at_call 25; refine Rets.use (write_nob HNO.out at_ vC) ?_; rintro v w6 ⟨rfl, rfl⟩)
        | (go_at_call 14; refine Rets.use (sync_no HNO.out) ?_; rintro v w6 ⟨rfl, rfl⟩)
        | (go_at_call 27; refine Rets.use (arm_no HNO.out at_) ?_; rintro v w6 ⟨rfl, rfl⟩)
        | (go_at_call 17; refine Rets.use (crash_no HNO.out _) ?_; rintro v w6 ⟨rfl, rfl⟩)
        | (go_at_call 33; refine Rets.use (sectors_no HNO.out) ?_; rintro v w6 ⟨rfl, rfl⟩)
        | (go_at_call 15; refine Rets.use (open_no HNO.out) ?_; rintro v w6 ⟨rfl, rfl⟩)
        | (go_at_call 28; refine Rets.use (off_no HNO.out) ?_; rintro v w6 ⟨rfl, rfl⟩))
      go_roundw
      case rel => exact ⟨2, by omega, rfl, HR3.out.trans HK5.out (fun _ _ h => h)⟩
      case measure => simp [intOf]
    · go_wp2_with (go_at_call 20; refine Rets.use (lives09_c wr) ?_; rintro v w6 ⟨rfl, hk6⟩)
      go_ret
      exact ⟨rfl, (HK1.out.trans HR3.out (fun _ _ h => h)).trans hk6 (fun _ _ h => h)⟩
end Go.Proofs.Ytmkpdoljaccpaaa
