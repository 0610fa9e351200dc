/-
  disk.New; a disk that no call made; the contracts of package disk without the blocks' names.
-/
import Derived.Test.YtbiohidelhfaiaaDiskC
import Derived.Test.YtbiohidelhfaiaaSmall
namespace Go.Proofs.Ytbiohidelhfaiaa
open Go.RowKit Go.Canon Go.Mem
set_option linter.unusedVariables false
set_option linter.unusedSimpArgs false

/-! ### a disk that no call made -/
def NoDisk (w : World) (p : Value) : Prop := p = .pointer none ∨ ∃ g, p = .pointer (some ⟨g, 0, none⟩) ∧ w.cell? ⟨g, 1, none⟩ = some (.slice none 0 0)
section
variable {w : World} {p : Value}
theorem made_no (h : NoDisk w p) : Calls Try.prog 62 #[p] w (Rets (Only (.bool false) w)) := by
  rcases h with rfl | ⟨g, rfl, c1⟩
  all_goals
    go_enter Try.func62, Try.ntmps62
    go_wp2
    go_ret
    exact ⟨rfl, rfl⟩
theorem ready_no (h : NoDisk w p) : Calls Try.prog 61 #[p] w (Rets (Only (.int .i64 1) w)) := by
  go_enter Try.func61, Try.ntmps61
  go_wp2_with (go_at_call 62; refine Rets.use (made_no h) ?_; rintro v w' ⟨rfl, rfl⟩)
  go_ret
  exact ⟨rfl, rfl⟩
theorem sectors_no (h : NoDisk w p) : Calls Try.prog 67 #[p] w (Rets (Only (.int .i64 0) w)) := by
  go_enter Try.func67, Try.ntmps67
  go_wp2_with (go_at_call 62; refine Rets.use (made_no h) ?_; rintro v w' ⟨rfl, rfl⟩)
  go_ret
  exact ⟨rfl, rfl⟩
theorem arm_no (h : NoDisk w p) (n : Int) : Calls Try.prog 32 #[p, .int .i64 n] w (Rets (Only (.int .i64 1) w)) := by
  go_enter Try.func32, Try.ntmps32
  go_wp2_with (go_at_call 61; refine Rets.use (ready_no h) ?_; rintro v w' ⟨rfl, rfl⟩)
  go_ret
  exact ⟨rfl, rfl⟩
theorem read_no (h : NoDisk w p) (n : Int) : Calls Try.prog 81 #[p, .int .i64 n] w (Rets (Only (.tuple #[.slice none 0 0, .int .i64 1]) w)) := by
  go_enter Try.func81, Try.ntmps81
  go_wp2_with (go_at_call 61; refine Rets.use (ready_no h) ?_; rintro v w' ⟨rfl, rfl⟩)
  go_ret2
  exact ⟨rfl, rfl⟩
theorem write_nob (h : NoDisk w p) (n : Int) (v : Value) : Calls Try.prog 85 #[p, .int .i64 n, v] w (Rets (Only (.int .i64 1) w)) := by
  go_enter Try.func85, Try.ntmps85
  go_wp2_with (go_at_call 61; refine Rets.use (ready_no h) ?_; rintro v w' ⟨rfl, rfl⟩)
  go_ret
  exact ⟨rfl, rfl⟩
theorem sync_no (h : NoDisk w p) : Calls Try.prog 86 #[p] w (Rets (Only (.int .i64 1) w)) := by
  go_enter Try.func86, Try.ntmps86
  go_wp2_with (go_at_call 61; refine Rets.use (ready_no h) ?_; rintro v w' ⟨rfl, rfl⟩)
  go_ret
  exact ⟨rfl, rfl⟩
theorem crash_no (h : NoDisk w p) (v : Value) : Calls Try.prog 33 #[p, v] w (Rets (Only (.int .i64 1) w)) := by
  go_enter Try.func33, Try.ntmps33
  go_wp2_with (go_at_call 62; refine Rets.use (made_no h) ?_; rintro v w' ⟨rfl, rfl⟩)
  go_ret
  exact ⟨rfl, rfl⟩
end

/-! ### New -/
theorem rep_get (k j : Nat) (v : Value) (h : 0 < k) : (List.replicate k v).toArray[j % (List.replicate k v).toArray.size]! = v := by
  have h1 : (List.replicate k v).toArray.size = k := by simp
  have : j % k < k := Nat.mod_lt _ h
  rw [h1]
  rw [getElem!_pos _ _ (by rw [h1]; exact this)]
  simp
theorem made_rep (k m : Nat) (v : Value) (h : 0 < k) : madeCells (List.replicate k v).toArray m = (List.replicate m v).toArray := by
  apply Array.ext'
  unfold madeCells
  rw [Array.toList_map, Array.toList_range]
  refine List.eq_replicate_iff.2 ⟨by simp, fun b hb => ?_⟩
  obtain ⟨j, _, rfl⟩ := List.mem_map.1 hb
  exact rep_get k j v h
theorem made_flat (n : Nat) : madeCells (Disk.bytes8 Disk.zsec).toArray (n * 64) = (Disk.flat (List.replicate n Disk.zsec)).toArray := by
  have e1 : Disk.bytes8 Disk.zsec = List.replicate 64 (.int .u8 0) := by
    unfold Disk.bytes8 Disk.zsec
    rw [List.map_replicate]
  rw [e1, made_rep 64 (n * 64) _ (by decide)]
  congr 1
  unfold Disk.flat
  induction n with
  | zero => rw [Nat.zero_mul]; rfl
  | succ n ih => rw [List.replicate_succ (n := n), List.flatMap_cons, ← ih, e1, List.replicate_append_replicate]; congr 1; omega
def fresh (n : Nat) : Disk.St := ⟨List.replicate n Disk.zsec, List.replicate n Disk.zsec, [], false, 0, false⟩
theorem fresh_ok {n : Nat} (h1 : 1 ≤ n) (h2 : n ≤ 4096) : (fresh n).Ok := by
  refine ⟨rfl, by simp [fresh]; omega, by simp [fresh]; omega, ?_, ?_, fun p hp => (by cases hp), Int.le_refl _, show (0 : Int) ≤ 9223372036854775807 by decide⟩
  all_goals
    intro x hx
    rw [(List.mem_replicate.1 hx).2]
    exact Disk.zsec_len
theorem row_sec : (Try.prog.info? 117).map (fun i => (i.zero, i.size, i.bytes)) = some (some (.agg (Disk.bytes8 Disk.zsec).toArray), 64, 64) := by kernel_rfl
def NewPost (w : World) (n : Int) (v : Value) (w' : World) : Prop := Keeps (fun _ => False) w w' ∧
  ((1 ≤ n ∧ n ≤ 4096 ∧ ∃ g F N vo, v = .tuple #[.pointer (some ⟨g, 0, none⟩), .int .i64 0] ∧ DParts w' (fun k => w.heap.size ≤ k) g F N vo (fresh n.toNat)) ∨ (¬ (1 ≤ n ∧ n ≤ 4096) ∧ v = .tuple #[.pointer none, .int .i64 2]))
theorem new_parts {w w2 : World} {n F N : Nat} (h1 : 1 ≤ n) (h2 : n ≤ 4096) (hF : w.heap.size ≤ F) (hN : w.heap.size ≤ N) (hne : N ≠ F) (bF : w2.heap[F]? = some (.cells (Disk.flat (List.replicate n Disk.zsec)).toArray 117 (0, 0))) (bN : w2.heap[N]? = some (.cells (Disk.flat (List.replicate n Disk.zsec)).toArray 117 (0, 0)))
    : DParts (w2.alloc (.cells #[.slice (some ⟨F, 0, none⟩) n n, .slice (some ⟨N, 0, none⟩) n n, .slice none 0 0, .bool false, .int .i64 0, .bool false] 100)) (fun k => w.heap.size ≤ k) w2.heap.size F N (.slice none 0 0) (fresh n) := by
  have k := (Keeps.refl (fun _ => False) w2).alloc (.cells #[.slice (some ⟨F, 0, none⟩) n n, .slice (some ⟨N, 0, none⟩) n n, .slice none 0 0, .bool false, .int .i64 0, .bool false] 100)
  have lF := lt_of bF
  have lN := lt_of bN
  refine ⟨?_, k.heap bF (fun h => h), k.heap bN (fun h => h), OwnRow.nil _ _ _ _, ⟨by omega, hF, hN⟩, ⟨by omega, by omega, hne⟩, fresh_ok h1 h2⟩
  rw [heap_alloc_new w2 _]
  simp [fresh]
set_option maxHeartbeats 400000 in
theorem new_c (n : Int) (w : World) : Calls Try.prog 23 #[.int .i64 n] w (Rets (NewPost w n)) := by
  by_cases h1 : n < 1
  · go_enter Try.func23, Try.ntmps23
    go_wp2
    go_ret2
    exact ⟨Keeps.refl _ w, .inr ⟨by omega, rfl⟩⟩
  · by_cases h2 : 4096 < n
    · go_enter Try.func23, Try.ntmps23
      go_wp2
      go_ret2
      exact ⟨Keeps.refl _ w, .inr ⟨by omega, rfl⟩⟩
    · obtain ⟨m, rfl⟩ : ∃ m : Nat, n = m := ⟨n.toNat, by omega⟩
      have hm1 : 1 ≤ m := by omega
      have hm2 : m ≤ 4096 := by omega
      go_enter Try.func23, Try.ntmps23
      go_wp2
      refine Canon.region [1, 3] [] [] (.seg [0, 2] (.fork 1 (.loud 3 (.seg [4, 5, 6, 7] .stop)) 3 (.loud 1 (.seg [4, 5, 6, 7] .stop)))) (by kernel_rfl) (by kernel_rfl) (by repeat (first | (with_reducible exact Safe.body) | (with_reducible apply Safe.then) | (with_reducible apply Safe.inBlock) | (dsimp +zetaDelta only))) ?_
      simp only [Canon.pick, Canon.wpPlan, List.getElem?_toArray, List.getElem?_cons_zero, List.getElem?_cons_succ]
      have Kd : Keeps (fun _ => False) w w.drew := (Keeps.refl _ w).drew
      have SD := Lib.hid (show w.drew.heap.size = w.heap.size from rfl)
      generalize w.drew = w0 at *
      go_wp2
      refine ⟨?_, ?_⟩
      · go_wp2_with ((with_reducible refine at_ 11 rfl ?_); go_must (refine step_make rfl _ _ _ rfl 117 _ 64 64 Try.underlying97 row_sec _ _ m rfl rfl (by omega) (by simp only [maxLen]; omega) ?_); intro w1 b1 k1)
        refine ⟨fun p hp => (by cases hp), ?_⟩
        go_wp2_with ((with_reducible refine at_ 13 rfl ?_); go_must (refine step_make rfl _ _ _ rfl 117 _ 64 64 Try.underlying97 row_sec _ _ m rfl rfl (by omega) (by simp only [maxLen]; omega) ?_); intro w2 b2 k2)
        refine ⟨fun p hp => (by cases hp), ?_⟩
        go_wp2
        refine ⟨by rfl, trivial, ?_⟩
        go_wp2
        go_ret2
        have b1' := k2.heap b1 (fun h => h)
        rw [show (Value.agg (Disk.bytes8 Disk.zsec).toArray).cells = (Disk.bytes8 Disk.zsec).toArray from rfl, made_flat] at b1' b2
        have s1 := lt_of b1
        have s0 := k1.size
        have sd := SD.out
        refine ⟨((Kd.trans k1 (fun _ _ h => h)).trans k2 (fun _ _ h => h)).alloc _, .inl ⟨by omega, by omega, w2.heap.size, w0.heap.size, w1.heap.size, .slice none 0 0, rfl, ?_⟩⟩
        exact new_parts (w := w) hm1 hm2 (by omega) (by omega) (by omega) b1' b2
      · go_wp2_with ((with_reducible refine at_ 13 rfl ?_); go_must (refine step_make rfl _ _ _ rfl 117 _ 64 64 Try.underlying97 row_sec _ _ m rfl rfl (by omega) (by simp only [maxLen]; omega) ?_); intro w1 b1 k1)
        refine ⟨fun p hp => (by cases hp), ?_⟩
        go_wp2_with ((with_reducible refine at_ 11 rfl ?_); go_must (refine step_make rfl _ _ _ rfl 117 _ 64 64 Try.underlying97 row_sec _ _ m rfl rfl (by omega) (by simp only [maxLen]; omega) ?_); intro w2 b2 k2)
        refine ⟨fun p hp => (by cases hp), ?_⟩
        go_wp2
        refine ⟨by rfl, trivial, ?_⟩
        go_wp2
        go_ret2
        have b1' := k2.heap b1 (fun h => h)
        rw [show (Value.agg (Disk.bytes8 Disk.zsec).toArray).cells = (Disk.bytes8 Disk.zsec).toArray from rfl, made_flat] at b1' b2
        have s1 := lt_of b1
        have s0 := k1.size
        have sd := SD.out
        refine ⟨((Kd.trans k1 (fun _ _ h => h)).trans k2 (fun _ _ h => h)).alloc _, .inl ⟨by omega, by omega, w2.heap.size, w1.heap.size, w0.heap.size, .slice none 0 0, rfl, ?_⟩⟩
        exact new_parts (w := w) hm1 hm2 (by omega) (by omega) (by omega) b2 b1'

/-! ### in one -/
section
variable {w : World} {S : Nat → Prop} {g F N : Nat} {vo : Value} {s : Disk.St}
/-- The blocks of a disk are below the heap's end. -/
theorem DParts.bound (h : DParts w S g F N vo s) : DParts w (fun k => S k ∧ k < w.heap.size) g F N vo s :=
  ⟨h.blk, h.bF, h.bN, h.own.mono (fun k hk hh => ⟨⟨hh.1, hk⟩, hh.2⟩), ⟨⟨h.inS.1, lt_of h.blk⟩, ⟨h.inS.2.1, lt_of h.bF⟩, ⟨h.inS.2.2, lt_of h.bN⟩⟩, h.ne, h.ok⟩
theorem write_c {ok : Nat → Prop} (h : DParts w S g F N vo s) (i : Int) (v : Value) (b : List Int) (hr : Rd w ok v b.length (Disk.bytes8 b)) (hok : ∀ k, ok k → ¬ S k) (hl : b.length ≤ 9223372036854775807) (few : s.opn.length ≤ 1000000) :
    Calls Try.prog 85 #[.pointer (some ⟨g, 0, none⟩), .int .i64 i, v] w (Rets (WritePost w S g F N s i b)) := by
  by_cases hbad : s.off = true ∨ i < 0 ∨ (s.now.length : Int) ≤ i ∨ 64 < b.length
  · exact write_bad h i v b hr hbad hl
  · obtain ⟨k, rfl⟩ : ∃ k : Nat, i = k := ⟨i.toNat, by omega⟩
    exact write_ok h k v b hr hok (by cases ho : s.off <;> simp_all) (by omega) (by omega) few
end
/-- A disk at block g, its blocks in S. -/
def DIs (w : World) (S : Nat → Prop) (g : Nat) (s : Disk.St) : Prop := ∃ F N vo, DParts w S g F N vo s
section
variable {w w' : World} {S : Nat → Prop} {g : Nat} {s : Disk.St}
theorem DIs.kept {S' : Nat → Prop} (h : DIs w S g s) (hk : Keeps S' w w') (hn : ∀ k, S k → ¬ S' k) : DIs w' S g s := by
  obtain ⟨F, N, vo, h⟩ := h
  exact ⟨F, N, vo, h.kept hk hn⟩
theorem DIs.bound (h : DIs w S g s) : DIs w (fun k => S k ∧ k < w.heap.size) g s := by
  obtain ⟨F, N, vo, h⟩ := h
  exact ⟨F, N, vo, h.bound⟩
theorem DIs.wide {S' : Nat → Prop} (h : DIs w S g s) (hs : ∀ k, S k → S' k) : DIs w S' g s := by
  obtain ⟨F, N, vo, h⟩ := h
  exact ⟨F, N, vo, h.wide hs⟩
theorem DIs.ok (h : DIs w S g s) : s.Ok := by
  obtain ⟨F, N, vo, h⟩ := h
  exact h.ok
theorem DIs.lt (h : DIs w S g s) : g < w.heap.size := by
  obtain ⟨F, N, vo, h⟩ := h
  exact lt_of h.blk
/-- The disk is s' now; what is not its own, and was there, stays. -/
def DPost (w : World) (S : Nat → Prop) (g : Nat) (v : Value) (s' : Disk.St) : Value → World → Prop := fun v' w' => v' = v ∧ DIs w' (fun k => S k ∨ w.heap.size ≤ k) g s' ∧ Keeps S w w'
theorem dSync_c (h : DIs w S g s) (few : s.opn.length ≤ 1000000) : Calls Try.prog 86 #[.pointer (some ⟨g, 0, none⟩)] w (Rets (DPost w S g (.int .i64 s.sync.1) s.sync.2)) := by
  obtain ⟨F, N, vo, h⟩ := h
  exact Rets.use (sync_c h few) fun v w' ⟨h1, ⟨vo', h2⟩, h3⟩ => ⟨h1, ⟨F, N, vo', h2.wide (fun k hk => .inl hk)⟩, h3⟩
theorem dCrash_c {ok : Nat → Prop} (h : DIs w S g s) (few : s.opn.length ≤ 1000000) (v : Value) (keep : List Bool) (hr : Rd w ok v keep.length (bools keep)) (hok : ∀ k, ok k → ¬ S k) (hkl : keep.length ≤ 9223372036854775807) :
    Calls Try.prog 33 #[.pointer (some ⟨g, 0, none⟩), v] w (Rets (DPost w S g (.int .i64 0) (s.crash keep))) := by
  obtain ⟨F, N, vo, h⟩ := h
  exact Rets.use (crash_c h few v keep hr hok hkl) fun v w' ⟨h1, ⟨vo', h2⟩, h3⟩ => ⟨h1, ⟨F, N, vo', h2.wide (fun k hk => .inl hk)⟩, h3⟩
theorem dWrite_c {ok : Nat → Prop} (h : DIs w S g s) (i : Int) (v : Value) (b : List Int) (hr : Rd w ok v b.length (Disk.bytes8 b)) (hok : ∀ k, ok k → ¬ S k) (hl : b.length ≤ 9223372036854775807) (few : s.opn.length ≤ 1000000) :
    Calls Try.prog 85 #[.pointer (some ⟨g, 0, none⟩), .int .i64 i, v] w (Rets (DPost w S g (.int .i64 (s.write i b).1) (s.write i b).2)) := by
  obtain ⟨F, N, vo, h⟩ := h
  exact Rets.use (write_c h i v b hr hok hl few) fun v w' ⟨h1, ⟨vo', h2⟩, h3⟩ => ⟨h1, ⟨F, N, vo', h2⟩, h3⟩
theorem dArm_c (h : DIs w S g s) (n : Int) (hn : n ≤ 9223372036854775807) : Calls Try.prog 32 #[.pointer (some ⟨g, 0, none⟩), .int .i64 n] w (Rets (DPost w S g (.int .i64 (s.arm n).1) (s.arm n).2)) := by
  obtain ⟨F, N, vo, h⟩ := h
  exact Rets.use (arm_c h n hn) fun v w' ⟨h1, h2, h3⟩ => ⟨h1, ⟨F, N, vo, h2.wide (fun k hk => .inl hk)⟩, h3.mono (fun k _ e => by subst e; exact h.inS.1)⟩
theorem dSectors_c (h : DIs w S g s) : Calls Try.prog 67 #[.pointer (some ⟨g, 0, none⟩)] w (Rets (Only (.int .i64 s.now.length) w)) := by
  obtain ⟨F, N, vo, h⟩ := h
  exact sectors_c h
theorem dRead_c (h : DIs w S g s) (i : Int) : Calls Try.prog 81 #[.pointer (some ⟨g, 0, none⟩), .int .i64 i] w (Rets (ReadPost w s i)) := by
  obtain ⟨F, N, vo, h⟩ := h
  exact read_c h i
end
/-- A disk of n sectors; or why there is none. -/
theorem dNew_c (n : Nat) (h1 : 1 ≤ n) (h2 : n ≤ 4096) (w : World) : Calls Try.prog 23 #[.int .i64 n] w (Rets fun v w' => Keeps (fun _ => False) w w' ∧ ∃ g, v = .tuple #[.pointer (some ⟨g, 0, none⟩), .int .i64 0] ∧ DIs w' (fun k => w.heap.size ≤ k ∧ k < w'.heap.size) g (fresh n)) :=
  Rets.use (new_c n w) fun v w' ⟨h3, h4⟩ => by
    obtain ⟨_, _, g, F, N, vo, h5, h6⟩ := h4.resolve_right (fun h => h.1 ⟨by omega, by omega⟩)
    exact ⟨h3, g, h5, ⟨F, N, vo, h6.bound⟩⟩
end Go.Proofs.Ytbiohidelhfaiaa
