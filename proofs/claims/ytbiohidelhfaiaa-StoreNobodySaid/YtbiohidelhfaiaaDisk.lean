/-
  The walks of package disk: each method does what the plain disk does.
-/
import Derived.Test.YtbiohidelhfaiaaCanon
import Derived.Test.YtbiohidelhfaiaaDiskM
import Derived.Test.YtbiohidelhfaiaaChecked
import Derived.WalkKit
import Derived.WalkSpells
import Derived.WalkLawsBesides
import Derived.Lib.Hide
namespace Go.Proofs.Ytbiohidelhfaiaa
open Go.RowKit Go.Canon Go.Mem
set_option linter.unusedVariables false
set_option linter.unusedSimpArgs false

abbrev DParts (w : World) (S : Nat → Prop) (g F N : Nat) (vo : Value) (s : Disk.St) := Disk.Parts 100 117 119 w S g F N vo s
def Same (v : Value) (w : World) : Value → World → Prop := fun v' w' => v' = v ∧ w = w'

section
variable {w : World} {S : Nat → Prop} {g F N : Nat} {vo : Value} {s : Disk.St}
set_option maxHeartbeats 400000 in
theorem made_c (h : DParts w S g F N vo s) : Calls Try.prog 62 #[.pointer (some ⟨g, 0, none⟩)] w (Rets (Same (.bool true) w)) := by
  have c1 := h.cell 1 _ rfl
  go_enter Try.func62, Try.ntmps62
  go_wp2
  go_ret
  exact ⟨rfl, rfl⟩
set_option maxHeartbeats 400000 in
theorem ready_c (h : DParts w S g F N vo s) : Calls Try.prog 61 #[.pointer (some ⟨g, 0, none⟩)] w (Rets (Same (.int .i64 (if s.off = true then 14 else 0)) w)) := by
  have c5 := h.cell 5 _ rfl
  cases ho : s.off
  all_goals
    rw [ho] at c5
    clear ho
    go_enter Try.func61, Try.ntmps61
    go_wp2_with (go_at_call 62; refine Rets.use (made_c h) ?_; rintro v w' ⟨rfl, rfl⟩)
    go_ret
    exact ⟨rfl, rfl⟩
def StepPost (w : World) (S : Nat → Prop) (g F N : Nat) (vo : Value) (s : Disk.St) (v : Value) (w' : World) : Prop := v = .int .i64 (if s.step.1 = true then 0 else 14) ∧ DParts w' S g F N vo s.step.2 ∧ Keeps (· = g) w w'
set_option maxHeartbeats 400000 in
theorem step_c (h : DParts w S g F N vo s) : Calls Try.prog 100 #[.pointer (some ⟨g, 0, none⟩)] w (Rets (StepPost w S g F N vo s)) := by
  have c3 := h.cell 3 _ rfl
  have c4 := h.cell 4 _ rfl
  have c5 := h.cell 5 _ rfl
  have f4 := h.free 4
  have f5 := h.free 5
  have l0 := h.ok.left0
  have l1 := h.ok.left1
  cases ha : s.armed
  · have e : s.step = (true, s) := by simp [Disk.St.step, ha]
    rw [ha] at c3
    have HE := Lib.hid e
    clear e ha
    go_enter Try.func100, Try.ntmps100
    go_wp2
    go_ret
    refine ⟨?_, ?_, Keeps.refl _ w⟩
    · rw [HE.out]; rfl
    · rw [HE.out]; exact h
  · rw [ha] at c3
    by_cases hz : s.left = 0
    · have e : s.step = (false, { s with off := true }) := by simp [Disk.St.step, ha, hz]
      rw [hz] at c4
      have HE := Lib.hid e
      have HA := Lib.hid ha
      clear e ha hz
      go_enter Try.func100, Try.ntmps100
      go_wp2
      go_ret
      refine ⟨?_, ?_, ?_⟩
      · rw [HE.out]; rfl
      · rw [HE.out]
        refine h.upd (Keeps.set1 w g 5 _) ?_ rfl rfl rfl l0 l1
        rw [heap_setCell_same w g 5 _ _ _ h.blk]; simp
      · exact Keeps.set1 w g 5 _
    · have e : s.step = (true, { s with left := s.left - 1 }) := by simp [Disk.St.step, ha, hz]
      have hz' : (s.left == 0) = false := by simpa using hz
      have HE := Lib.hid e
      have HA := Lib.hid ha
      clear e ha
      go_enter Try.func100, Try.ntmps100
      go_wp2
      go_ret
      refine ⟨?_, ?_, ?_⟩
      · rw [HE.out]; rfl
      · rw [HE.out]
        refine h.upd (Keeps.set1 w g 4 _) ?_ rfl rfl rfl (show 0 ≤ s.left - 1 by omega) (show s.left - 1 ≤ _ by omega)
        rw [heap_setCell_same w g 4 _ _ _ h.blk]; simp
      · exact Keeps.set1 w g 4 _
theorem sectors_c (h : DParts w S g F N vo s) : Calls Try.prog 67 #[.pointer (some ⟨g, 0, none⟩)] w (Rets (Same (.int .i64 s.now.length) w)) := by
  have c1 := h.cell 1 _ rfl
  go_enter Try.func67, Try.ntmps67
  go_wp2_with (go_at_call 62; refine Rets.use (made_c h) ?_; rintro v w' ⟨rfl, rfl⟩)
  go_ret
  exact ⟨rfl, rfl⟩
def ArmPost (w : World) (S : Nat → Prop) (g F N : Nat) (vo : Value) (s : Disk.St) (n : Int) (v : Value) (w' : World) : Prop := v = .int .i64 (s.arm n).1 ∧ DParts w' S g F N vo (s.arm n).2 ∧ Keeps (· = g) w w'
set_option maxHeartbeats 400000 in
theorem arm_c (h : DParts w S g F N vo s) (n : Int) (hn : n ≤ 9223372036854775807) : Calls Try.prog 32 #[.pointer (some ⟨g, 0, none⟩), .int .i64 n] w (Rets (ArmPost w S g F N vo s n)) := by
  have c3 := h.cell 3 _ rfl
  have c4 := h.cell 4 _ rfl
  have f3 := h.free 3
  have f4 := h.free 4
  cases ho : s.off
  · by_cases hz : n < 0
    · have HE := Lib.hid (show s.arm n = (2, s) by simp [Disk.St.arm, ho, hz])
      have HR := Lib.hid (show (if s.off = true then 14 else 0) = (0 : Int) by simp [ho])
      clear ho
      go_enter Try.func32, Try.ntmps32
      go_wp2_with (go_at_call 61; refine Rets.use (ready_c h) ?_; rw [HR.out]; rintro v w' ⟨rfl, rfl⟩)
      go_ret
      refine ⟨?_, ?_, Keeps.refl _ w⟩
      · rw [HE.out]; rfl
      · rw [HE.out]; exact h
    · have HE := Lib.hid (show s.arm n = (0, { s with armed := true, left := n }) by simp [Disk.St.arm, ho, hz])
      have HR := Lib.hid (show (if s.off = true then 14 else 0) = (0 : Int) by simp [ho])
      clear ho
      go_enter Try.func32, Try.ntmps32
      go_wp2_with (go_at_call 61; refine Rets.use (ready_c h) ?_; rw [HR.out]; rintro v w' ⟨rfl, rfl⟩)
      go_ret
      have k1 := Keeps.set1 w g 3 (.bool true)
      have k2 := k1.trans (Keeps.set1 (w.setCell ⟨g, 3, none⟩ (.bool true)) g 4 (.int .i64 n)) (fun _ _ h => h)
      refine ⟨?_, ?_, k2⟩
      · rw [HE.out]; rfl
      · rw [HE.out]
        refine h.upd k2 ?_ rfl rfl rfl (show 0 ≤ n by omega) hn
        rw [heap_setCell_same _ g 4 _ _ _ (heap_setCell_same w g 3 _ _ _ h.blk)]; simp
  · have HE := Lib.hid (show s.arm n = (14, s) by simp [Disk.St.arm, ho])
    have HR := Lib.hid (show (if s.off = true then 14 else 0) = (14 : Int) by simp [ho])
    clear ho
    go_enter Try.func32, Try.ntmps32
    go_wp2_with (go_at_call 61; refine Rets.use (ready_c h) ?_; rw [HR.out]; rintro v w' ⟨rfl, rfl⟩)
    go_ret
    refine ⟨?_, ?_, Keeps.refl _ w⟩
    · rw [HE.out]; rfl
    · rw [HE.out]; exact h

theorem info_sec : (Try.prog.info? 117).map (·.size) = some 64 := by kernel_rfl
theorem zero_sec : (Try.prog.info? 117).map (fun i => i.zero) = some (some (.agg (Disk.bytes8 Disk.zsec).toArray)) := by kernel_rfl
/-- A read: a new block with the sector's bytes, or why not. -/
def ReadPost (w : World) (s : Disk.St) (i : Int) (v : Value) (w' : World) : Prop := Keeps (fun _ => False) w w' ∧
  (((s.read i).2 ≠ 0 ∧ (s.read i).1 = [] ∧ v = .tuple #[.slice none 0 0, .int .i64 (s.read i).2]) ∨
   ((s.read i).2 = 0 ∧ (s.read i).1.length = 64 ∧ ∃ b, w.heap.size ≤ b ∧ v = .tuple #[.slice (some ⟨b, 0, none⟩) 64 64, .int .i64 0] ∧ w'.heap[b]? = some (.cells (Disk.bytes8 (s.read i).1).toArray 117 (0, 0))))
set_option maxHeartbeats 400000 in
set_option maxRecDepth 100000 in
theorem read_c (h : DParts w S g F N vo s) (i : Int) : Calls Try.prog 81 #[.pointer (some ⟨g, 0, none⟩), .int .i64 i] w (Rets (ReadPost w s i)) := by
  have c1 := h.cell 1 _ rfl
  have hm := h.ok.most
  cases ho : s.off
  · have HR := Lib.hid (show (if s.off = true then 14 else 0) = (0 : Int) by simp [ho])
    by_cases hz : i < 0 ∨ (s.now.length : Int) ≤ i
    · have HE := Lib.hid (show s.read i = ([], 2) by
        have : s.at_ i = none := by
          unfold Disk.St.at_
          split
          · exact List.getElem?_eq_none (by omega)
          · rfl
        simp [Disk.St.read, ho, this])
      clear ho
      rcases hz with hz | hz
      all_goals
        go_enter Try.func81, Try.ntmps81
        go_wp2_with (go_at_call 61; refine Rets.use (ready_c h) ?_; rw [HR.out]; rintro v w' ⟨rfl, rfl⟩)
        go_ret2
        refine ⟨Keeps.refl _ w, .inl ?_⟩
        rw [HE.out]
        exact ⟨by decide, rfl, rfl⟩
    · obtain ⟨k, rfl⟩ : ∃ k : Nat, i = k := ⟨i.toNat, by omega⟩
      have hk : k < s.now.length := by omega
      have hx : s.now[k]? = some s.now[k] := List.getElem?_eq_getElem hk
      have h64 : s.now[k].length = 64 := h.ok.n64 _ (List.getElem_mem hk)
      have HE := Lib.hid (show s.read k = (s.now[k], 0) by
        have : s.at_ k = some s.now[k] := by
          unfold Disk.St.at_
          rw [if_pos (by omega), Int.toNat_natCast]; exact hx
        simp [Disk.St.read, ho, this])
      have HX := Lib.hid (Disk.flat_at h.ok.n64 k _ hx)
      have H64 := Lib.hid h64
      have HB := Lib.hid (show (Disk.bytes8 s.now[k]).length = 64 by rw [Disk.bytes8_len]; exact h64)
      have HO := Lib.hid (all_oneCell_toArray (Disk.bytes8_one s.now[k]))
      have HZ := Lib.hid (show (Disk.bytes8 Disk.zsec).length = 64 by rw [Disk.bytes8_len, Disk.zsec_len])
      generalize hvs : Disk.bytes8 s.now[k] = vs at *
      have HV := Lib.hid hvs
      clear hvs
      clear ho hz hx h64
      have hb := h.bN
      go_enter Try.func81, Try.ntmps81
      go_wp2_with (first
        | (go_at_call 61; refine Rets.use (ready_c h) ?_; rw [HR.out]; rintro v w' ⟨rfl, rfl⟩)
        | ((with_reducible refine at_ 30 rfl ?_); refine step_load rfl 117 _ rfl N (k * 64) vs _ _ _ _ rfl hb (by rw [HB.out]; exact HX.out) Try.underlying117 rfl (by rw [HB.out]; exact info_sec) ?_)
        | ((with_reducible refine at_ 7 rfl ?_); refine step_alloc rfl 117 rfl _ _ zero_sec rfl ?_; intro w1 hb1 hk1 hs1)
        | ((with_reducible refine at_store 117 (.tmp 7) (.tmp 30) rfl ?_); refine step_store rfl _ _ _ rfl _ 0 vs _ _ rfl rfl hb1 (by rw [HB.out, HZ.out]; decide) (by rw [HB.out]; exact info_sec) HO.out ?_; intro w2 hb2 hk2 hs2))
      go_ret2
      rw [put_whole (by rw [HB.out, HZ.out])] at hb2
      refine ⟨hk1.trans hk2 (fun k hk e => by omega), .inr ?_⟩
      rw [HE.out]
      exact ⟨rfl, H64.out, w.heap.size, Nat.le_refl _, rfl, by rw [HV.out]; exact hb2⟩
  · have HR := Lib.hid (show (if s.off = true then 14 else 0) = (14 : Int) by simp [ho])
    have HE := Lib.hid (show s.read i = ([], 14) by simp [Disk.St.read, ho])
    clear ho
    go_enter Try.func81, Try.ntmps81
    go_wp2_with (go_at_call 61; refine Rets.use (ready_c h) ?_; rw [HR.out]; rintro v w' ⟨rfl, rfl⟩)
    go_ret2
    refine ⟨Keeps.refl _ w, .inl ?_⟩
    rw [HE.out]
    exact ⟨by decide, rfl, rfl⟩

theorem info_wr : (Try.prog.info? 119).map (·.size) = some 65 := by kernel_rfl
theorem zero_wr : (Try.prog.info? 119).map (fun i => i.zero) = some (some (.agg (.int .i64 0 :: Disk.bytes8 Disk.zsec).toArray)) := by kernel_rfl
theorem row_wr : (Try.prog.info? 119).map (fun i => (i.zero, i.size, i.bytes)) = some (some (.agg (.int .i64 0 :: Disk.bytes8 Disk.zsec).toArray), 65, 72) := by kernel_rfl
theorem row2_wr : (Try.prog.info? 119).map (fun i => (i.zero, i.size)) = some (some (.agg (.int .i64 0 :: Disk.bytes8 Disk.zsec).toArray), 65) := by kernel_rfl
theorem build_wr (x : Int) (w : World) : (Instr.build 119 #[(0, .int .i64 x)]).run Try.prog w = .ok (.agg (.int .i64 x :: Disk.bytes8 Disk.zsec).toArray) w := by kernel_rfl
theorem info_byte : (Try.prog.info? 5).map (·.size) = some 1 := by kernel_rfl
theorem info_bool : (Try.prog.info? 4).map (·.size) = some 1 := by kernel_rfl
theorem info_int : (Try.prog.info? 3).map (·.size) = some 1 := by kernel_rfl
theorem info_wrs : (Try.prog.info? 98).map (·.size) = some 1 := by kernel_rfl
theorem step_same (s : Disk.St) : s.step.2.now = s.now ∧ s.step.2.fast = s.fast ∧ s.step.2.opn = s.opn := by
  unfold Disk.St.step
  split
  · exact ⟨rfl, rfl, rfl⟩
  · split <;> exact ⟨rfl, rfl, rfl⟩
def WritePost (w : World) (S : Nat → Prop) (g F N : Nat) (s : Disk.St) (i : Int) (b : List Int) (v : Value) (w' : World) : Prop :=
  v = .int .i64 (s.write i b).1 ∧ (∃ vo', DParts w' (fun k => S k ∨ w.heap.size ≤ k) g F N vo' (s.write i b).2) ∧ Keeps S w w'
theorem DParts.wide {S' : Nat → Prop} (h : DParts w S g F N vo s) (hs : ∀ k, S k → S' k) : DParts w S' g F N vo s :=
  ⟨h.blk, h.bF, h.bN, h.own.mono (fun k _ hk => ⟨hs k hk.1, hk.2⟩), ⟨hs _ h.inS.1, hs _ h.inS.2.1, hs _ h.inS.2.2⟩, h.ne, h.ok⟩
theorem write_no {i : Int} {b : List Int} {v : Value} (h : DParts w S g F N vo s) (e : (s.write i b).2 = s) (hv : v = .int .i64 (s.write i b).1) : WritePost w S g F N s i b v w :=
  ⟨hv, ⟨vo, by rw [e]; exact h.wide (fun k hk => .inl hk)⟩, Keeps.refl _ w⟩
set_option maxHeartbeats 800000 in
set_option maxRecDepth 100000 in
theorem write_bad {ok : Nat → Prop} (h : DParts w S g F N vo s) (i : Int) (v : Value) (b : List Int) (hr : Rd w ok v b.length (Disk.bytes8 b)) (hbad : s.off = true ∨ i < 0 ∨ (s.now.length : Int) ≤ i ∨ 64 < b.length) (hl : b.length ≤ 9223372036854775807) :
    Calls Try.prog 85 #[.pointer (some ⟨g, 0, none⟩), .int .i64 i, v] w (Rets (WritePost w S g F N s i b)) := by
  obtain ⟨A, c, rfl, hc, _⟩ := hr.slice
  have c1 := h.cell 1 _ rfl
  have hm := h.ok.most
  cases ho : s.off
  · have HR := Lib.hid (show (if s.off = true then 14 else 0) = (0 : Int) by simp [ho])
    have hb' : i < 0 ∨ (s.now.length : Int) ≤ i ∨ 64 < b.length := by simpa [ho] using hbad
    have HE := Lib.hid (show s.write i b = (2, s) by
      unfold Disk.St.write
      rw [if_neg (by simp [ho]), if_pos (by omega)])
    have HW := Lib.hid (write_no h (i := i) (b := b) (by rw [HE.out]) (v := .int .i64 2) (by rw [HE.out]))
    clear ho hbad
    rcases hb' with hz | hz | hz
    · go_enter Try.func85, Try.ntmps85
      go_wp2_with (go_at_call 61; refine Rets.use (ready_c h) ?_; rw [HR.out]; rintro v w' ⟨rfl, rfl⟩)
      go_ret
      exact HW.out
    · go_enter Try.func85, Try.ntmps85
      go_wp2_with (go_at_call 61; refine Rets.use (ready_c h) ?_; rw [HR.out]; rintro v w' ⟨rfl, rfl⟩)
      go_ret
      exact HW.out
    · by_cases h1 : i < 0
      · go_enter Try.func85, Try.ntmps85
        go_wp2_with (go_at_call 61; refine Rets.use (ready_c h) ?_; rw [HR.out]; rintro v w' ⟨rfl, rfl⟩)
        go_ret
        exact HW.out
      · by_cases h2 : (s.now.length : Int) ≤ i
        all_goals
          go_enter Try.func85, Try.ntmps85
          go_wp2_with (go_at_call 61; refine Rets.use (ready_c h) ?_; rw [HR.out]; rintro v w' ⟨rfl, rfl⟩)
          go_ret
          exact HW.out
  · have HR := Lib.hid (show (if s.off = true then 14 else 0) = (14 : Int) by simp [ho])
    have HE := Lib.hid (show s.write i b = (14, s) by simp [Disk.St.write, ho])
    have HW := Lib.hid (write_no h (i := i) (b := b) (by rw [HE.out]) (v := .int .i64 14) (by rw [HE.out]))
    clear ho hbad
    go_enter Try.func85, Try.ntmps85
    go_wp2_with (go_at_call 61; refine Rets.use (ready_c h) ?_; rw [HR.out]; rintro v w' ⟨rfl, rfl⟩)
    go_ret
    exact HW.out
end
end Go.Proofs.Ytbiohidelhfaiaa
