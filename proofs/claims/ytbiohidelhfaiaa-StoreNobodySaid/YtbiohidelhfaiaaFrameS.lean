/-
  Frames: how one is read.
-/
import Derived.Test.YtbiohidelhfaiaaFrameR
namespace Go.Proofs.Ytbiohidelhfaiaa
open Go.RowKit Go.Canon Go.Mem Go.Args
set_option linter.unusedVariables false
set_option linter.unusedSimpArgs false
theorem ret4 {P : Program} {fn : Func} {a b c d : Tmp} (h : fn.results = #[.tmp a, .tmp b, .tmp c, .tmp d]) (tmps : Array Value) (w : World) : (results fn tmps).run P w = .ok (.tuple #[tmps.getD a undef, tmps.getD b undef, tmps.getD c undef, tmps.getD d undef]) w := by simp [results, h]
/-- A part of bytes that are read. -/
theorem Rd.part {w : World} {ok : Nat → Prop} {b o n c : Nat} {cs : List Value} (h : Rd w ok (.slice (some ⟨b, o, none⟩) n c) n cs) (i m : Nat) (him : i + m ≤ n) (c' : Nat) (hc : m ≤ c') : Rd w ok (.slice (some ⟨b, o + i, none⟩) m c') m ((cs.drop i).take m) := by
  obtain ⟨A, c1, e, h1, h2, h3⟩ := h
  cases e
  refine ⟨_, _, rfl, hc, fun h => (by cases h), ?_⟩
  rcases h3 with rfl | ⟨b2, o2, e, h4, h5⟩
  · left; simp
  · cases e
    refine .inr ⟨b, o + i, rfl, h4, fun j u hj => ?_⟩
    rw [List.getElem?_take] at hj
    split at hj
    · rw [List.getElem?_drop] at hj
      rw [Nat.add_assoc]; exact h5 _ _ hj
    · cases hj
def readF (l : List Int) : Int × List Int × Int × Int :=
  if l.length < 16 then (0, [], 0, 3) else if standsF l 12 (sumF (l.take 12)) = false then (0, [], 0, 13)
  else if wget ((l.drop 4).take 8) = 0 then (0, [], 0, 4) else if 16384 < wget (l.take 4) then (0, [], 0, 5)
  else if (l.length : Int) - 20 < wget (l.take 4) then (0, [], 0, 3)
  else if standsF l (16 + (wget (l.take 4)).toNat) (sumF ((l.drop 16).take (wget (l.take 4)).toNat)) = false then (0, [], 0, 13)
  else (wget ((l.drop 4).take 8), (l.drop 16).take (wget (l.take 4)).toNat, wget (l.take 4) + 20, 0)
def FReadPost (w : World) (r : Int × List Int × Int × Int) : Value → World → Prop := fun v w' => Keeps (fun _ => False) w w' ∧ ∃ u, v = .tuple #[.int .u64 r.1, u, .int .i64 r.2.2.1, .int .i64 r.2.2.2] ∧ Rd w' (fun k => w.heap.size ≤ k) u r.2.1.length (Disk.bytes8 r.2.1)
theorem wget_pos {l : List Int} (h : IsB l) : 0 ≤ wget l := by
  unfold wget
  have : ∀ (l : List Int) (c : Int), IsB l → 0 ≤ c → 0 ≤ l.foldl (fun x c => x * 256 + c) c := by
    intro l
    induction l with
    | nil => intro c _ h; exact h
    | cons x r ih =>
      intro c hb hc
      have := (hb x (List.mem_cons_self ..)).1
      exact ih _ (fun y hy => hb y (List.mem_cons_of_mem _ hy)) (by show 0 ≤ c * 256 + x; omega)
  exact this l 0 h (by decide)
set_option maxHeartbeats 1600000 in
set_option maxRecDepth 100000 in
theorem fread_c {w : World} {ok : Nat → Prop} (v : Value) (l : List Int) (hr : Rd w ok v l.length (Disk.bytes8 l)) (hB : IsB l) (hl : l.length ≤ 1000000) : Calls Try.prog 70 #[v] w (Rets (FReadPost w (readF l))) := by
  obtain ⟨A, c, rfl, hc, hA⟩ := hr.slice
  have HR := Lib.hid hr.lt
  clear hr
  by_cases h16 : l.length < 16
  · have HG := Lib.hid (show readF l = (0, [], 0, 3) by unfold readF; rw [if_pos h16])
    go_enter Try.func70, Try.ntmps70
    go_wp2
    refine bodyPost_ret (ret4 rfl _ _) rfl ?_
    rw [HG.out]
    exact ⟨Keeps.refl _ _, _, rfl, Rd.nil _ _⟩
  · obtain ⟨b, o, c', e, _, _, _⟩ := HR.out.at (by intro e; have := congrArg List.length e; rw [Disk.bytes8_len, List.length_nil] at this; omega)
    cases e
    have HS1 := Lib.hid (fun w' (hk : Keeps (fun _ => False) w w') => stands_c (w := w') _ l 12 (sumF (l.take 12)) (HR.out.kept hk (fun _ _ h => h)) (by omega) (by omega))
    have HP1 := Lib.hid (show Rd w _ (.slice (some ⟨b, o, none⟩) 12 c) (l.take 12).length (Disk.bytes8 (l.take 12)) by
      have := Rd.part HR.out 0 12 (by omega) c (by omega)
      rw [List.length_take, Nat.min_eq_left (by omega)]
      simpa [Disk.bytes8, List.map_take] using this)
    cases hs1 : standsF l 12 (sumF (l.take 12)) with
    | false =>
      have HG := Lib.hid (show readF l = (0, [], 0, 13) by unfold readF; rw [if_neg h16, if_pos hs1])
      rw [hs1] at HS1
      clear hs1
      go_enter Try.func70, Try.ntmps70
      go_wp2_with (first
        | (go_at_call 82; go_loud (refine Rets.use (HS1.out _ (Keeps.refl _ _)) ?_); rintro v2 w2 ⟨rfl, hk2⟩)
        | (go_at_call 83; go_loud (refine Rets.use (sum_c _ (l.take 12) HP1.out (by rw [List.length_take]; omega)) ?_); rintro _ _ ⟨rfl, rfl⟩))
      refine bodyPost_ret (ret4 rfl _ _) rfl ?_
      rw [HG.out]
      exact ⟨hk2, _, rfl, Rd.nil _ _⟩
    | true =>
      rw [hs1] at HS1
      obtain ⟨k, hk⟩ : ∃ k : Nat, wget (l.take 4) = k := ⟨(wget (l.take 4)).toNat, by have := wget_pos (hB.take 4); omega⟩
      have HP2 := Lib.hid (show Rd w _ (.slice (some ⟨b, o, none⟩) 4 c) (l.take 4).length (Disk.bytes8 (l.take 4)) by
        have := Rd.part HR.out 0 4 (by omega) c (by omega)
        rw [List.length_take, Nat.min_eq_left (by omega)]
        simpa [Disk.bytes8, List.map_take] using this)
      have HP3 := Lib.hid (show Rd w _ (.slice (some ⟨b, o + 4, none⟩) 8 (c - 4)) ((l.drop 4).take 8).length (Disk.bytes8 ((l.drop 4).take 8)) by
        have := Rd.part HR.out 4 8 (by omega) (c - 4) (by omega)
        rw [List.length_take, List.length_drop, Nat.min_eq_left (by omega)]
        simpa [Disk.bytes8, List.map_take, List.map_drop] using this)
      have HW2 := Lib.hid (fun w' (hkk : Keeps (fun _ => False) w w') => (show Calls Try.prog 84 #[.slice (some ⟨b, o, none⟩) 4 c] w' (Rets (Only (.tuple #[.int .u64 k, .bool true]) w')) by
        rw [← hk]; exact wget_c _ (l.take 4) (HP2.out.kept hkk (fun _ _ h => h)) (by rw [List.length_take]; omega) (hB.take 4)))
      have HW3 := Lib.hid (fun w' (hkk : Keeps (fun _ => False) w w') => wget_c (w := w') _ ((l.drop 4).take 8) (HP3.out.kept hkk (fun _ _ h => h)) (by rw [List.length_take, List.length_drop]; omega) ((hB.drop 4).take 8))
      have HU := Lib.hid (show readF l = if wget ((l.drop 4).take 8) = 0 then (0, [], 0, 4) else if 16384 < (k : Int) then (0, [], 0, 5) else if (l.length : Int) - 20 < k then (0, [], 0, 3) else if standsF l (16 + k) (sumF ((l.drop 16).take k)) = false then (0, [], 0, 13) else (wget ((l.drop 4).take 8), (l.drop 16).take k, (k : Int) + 20, 0) by
        unfold readF; rw [if_neg h16, if_neg (by rw [hs1]; simp), hk, Int.toNat_natCast])
      clear hk hs1 HP2 HP3
      generalize wget ((l.drop 4).take 8) = q at *
      by_cases hq : q = 0
      · have HG := Lib.hid (show readF l = (0, [], 0, 4) by rw [HU.out, if_pos hq])
        subst hq
        go_enter Try.func70, Try.ntmps70
        go_wp2_with (first
          | ((with_reducible refine at_ 58 rfl ?_); go_must (rw [show 16 + k - 16 = k by omega]; refine step_append_rd (ok := fun _ => False) (ok2 := fun j => ok j ∧ j < w.heap.size) rfl _ _ _ rfl 5 _ 1 1 Try.underlying23 row_byte rfl (by decide) (.slice none 0 0) 0 [] rfl (OwnRow.nil _ _ _ _) _ m.length (Disk.bytes8 m) rfl (HP4.out.kept (hk2.trans hk4 (fun _ _ h => h)) (fun _ _ h => h)) (by rw [Disk.bytes8_len, Nat.mul_one]) (Disk.bytes8_one _) (by rw [hkl2]; simp only [maxLen]; omega) (by rw [hkl2]; omega) ?_); intro v9 w9 hO9 hk9)
          | (go_at_call 82; (have hz := hk2); clear hz; go_loud (refine Rets.use (HS4.out _ hk2) ?_); rintro v4 w4 ⟨rfl, hk4⟩)
          | (go_at_call 83; (have hz := hk2); clear hz; go_loud (refine Rets.use (sum_c _ m (HP4.out.kept hk2 (fun _ _ h => h)) (by rw [hkl2]; omega)) ?_); rintro _ _ ⟨rfl, rfl⟩)
          | (go_at_call 84; (have hz := hg1); clear hz; go_loud (refine Rets.use (HW3.out _ hk2) ?_); rintro _ _ ⟨rfl, rfl⟩)
          | (go_at_call 84; go_loud (refine Rets.use (HW2.out _ hk2) ?_); rintro _ _ ⟨rfl, rfl⟩; (have hg1 := True.intro))
          | (go_at_call 82; go_loud (refine Rets.use (HS1.out _ (Keeps.refl _ _)) ?_); rintro v2 w2 ⟨rfl, hk2⟩)
          | (go_at_call 83; go_loud (refine Rets.use (sum_c _ (l.take 12) HP1.out (by rw [List.length_take]; omega)) ?_); rintro _ _ ⟨rfl, rfl⟩))
        refine bodyPost_ret (ret4 rfl _ _) rfl ?_
        rw [HG.out]
        exact ⟨hk2, _, rfl, Rd.nil _ _⟩
      · have hqb : (q == 0) = false := by simpa using hq
        by_cases hbig : 16384 < (k : Int)
        · have HG := Lib.hid (show readF l = (0, [], 0, 5) by rw [HU.out, if_neg hq, if_pos hbig])
          go_enter Try.func70, Try.ntmps70
          go_wp2_with (first
            | ((with_reducible refine at_ 58 rfl ?_); go_must (rw [show 16 + k - 16 = k by omega]; refine step_append_rd (ok := fun _ => False) (ok2 := fun j => ok j ∧ j < w.heap.size) rfl _ _ _ rfl 5 _ 1 1 Try.underlying23 row_byte rfl (by decide) (.slice none 0 0) 0 [] rfl (OwnRow.nil _ _ _ _) _ m.length (Disk.bytes8 m) rfl (HP4.out.kept (hk2.trans hk4 (fun _ _ h => h)) (fun _ _ h => h)) (by rw [Disk.bytes8_len, Nat.mul_one]) (Disk.bytes8_one _) (by rw [hkl2]; simp only [maxLen]; omega) (by rw [hkl2]; omega) ?_); intro v9 w9 hO9 hk9)
            | (go_at_call 82; (have hz := hk2); clear hz; go_loud (refine Rets.use (HS4.out _ hk2) ?_); rintro v4 w4 ⟨rfl, hk4⟩)
            | (go_at_call 83; (have hz := hk2); clear hz; go_loud (refine Rets.use (sum_c _ m (HP4.out.kept hk2 (fun _ _ h => h)) (by rw [hkl2]; omega)) ?_); rintro _ _ ⟨rfl, rfl⟩)
            | (go_at_call 84; (have hz := hg1); clear hz; go_loud (refine Rets.use (HW3.out _ hk2) ?_); rintro _ _ ⟨rfl, rfl⟩)
            | (go_at_call 84; go_loud (refine Rets.use (HW2.out _ hk2) ?_); rintro _ _ ⟨rfl, rfl⟩; (have hg1 := True.intro))
            | (go_at_call 82; go_loud (refine Rets.use (HS1.out _ (Keeps.refl _ _)) ?_); rintro v2 w2 ⟨rfl, hk2⟩)
            | (go_at_call 83; go_loud (refine Rets.use (sum_c _ (l.take 12) HP1.out (by rw [List.length_take]; omega)) ?_); rintro _ _ ⟨rfl, rfl⟩))
          refine bodyPost_ret (ret4 rfl _ _) rfl ?_
          rw [HG.out]
          exact ⟨hk2, _, rfl, Rd.nil _ _⟩
        · by_cases hsh : (l.length : Int) - 20 < k
          · have HG := Lib.hid (show readF l = (0, [], 0, 3) by rw [HU.out, if_neg hq, if_neg hbig, if_pos hsh])
            go_enter Try.func70, Try.ntmps70
            go_wp2_with (first
              | ((with_reducible refine at_ 58 rfl ?_); go_must (rw [show 16 + k - 16 = k by omega]; refine step_append_rd (ok := fun _ => False) (ok2 := fun j => ok j ∧ j < w.heap.size) rfl _ _ _ rfl 5 _ 1 1 Try.underlying23 row_byte rfl (by decide) (.slice none 0 0) 0 [] rfl (OwnRow.nil _ _ _ _) _ m.length (Disk.bytes8 m) rfl (HP4.out.kept (hk2.trans hk4 (fun _ _ h => h)) (fun _ _ h => h)) (by rw [Disk.bytes8_len, Nat.mul_one]) (Disk.bytes8_one _) (by rw [hkl2]; simp only [maxLen]; omega) (by rw [hkl2]; omega) ?_); intro v9 w9 hO9 hk9)
              | (go_at_call 82; (have hz := hk2); clear hz; go_loud (refine Rets.use (HS4.out _ hk2) ?_); rintro v4 w4 ⟨rfl, hk4⟩)
              | (go_at_call 83; (have hz := hk2); clear hz; go_loud (refine Rets.use (sum_c _ m (HP4.out.kept hk2 (fun _ _ h => h)) (by rw [hkl2]; omega)) ?_); rintro _ _ ⟨rfl, rfl⟩)
              | (go_at_call 84; (have hz := hg1); clear hz; go_loud (refine Rets.use (HW3.out _ hk2) ?_); rintro _ _ ⟨rfl, rfl⟩)
              | (go_at_call 84; go_loud (refine Rets.use (HW2.out _ hk2) ?_); rintro _ _ ⟨rfl, rfl⟩; (have hg1 := True.intro))
              | (go_at_call 82; go_loud (refine Rets.use (HS1.out _ (Keeps.refl _ _)) ?_); rintro v2 w2 ⟨rfl, hk2⟩)
              | (go_at_call 83; go_loud (refine Rets.use (sum_c _ (l.take 12) HP1.out (by rw [List.length_take]; omega)) ?_); rintro _ _ ⟨rfl, rfl⟩))
            refine bodyPost_ret (ret4 rfl _ _) rfl ?_
            rw [HG.out]
            exact ⟨hk2, _, rfl, Rd.nil _ _⟩
          · have hkl : k + 20 ≤ l.length := by omega
            have HP4 := Lib.hid (show Rd w _ (.slice (some ⟨b, o + 16, none⟩) k (c - 16)) ((l.drop 16).take k).length (Disk.bytes8 ((l.drop 16).take k)) by
              have := Rd.part HR.out 16 k (by omega) (c - 16) (by omega)
              rw [List.length_take, List.length_drop, Nat.min_eq_left (by omega)]
              simpa [Disk.bytes8, List.map_take, List.map_drop] using this)
            have hkl2 : ((l.drop 16).take k).length = k := by rw [List.length_take, List.length_drop]; omega
            have HS4 := Lib.hid (fun w' (hkk : Keeps (fun _ => False) w w') => stands_c (w := w') _ l (16 + k) (sumF ((l.drop 16).take k)) (HR.out.kept hkk (fun _ _ h => h)) (by omega) (by omega))
            have e1 : (((16 + k : Nat) : Int)) = 16 + (k : Int) := by omega
            rw [e1] at HS4
            have hkm : k ≤ 16384 := by omega
            clear e1
            cases hs4 : standsF l (16 + k) (sumF ((l.drop 16).take k)) with
            | false =>
              have HG := Lib.hid (show readF l = (0, [], 0, 13) by rw [HU.out, if_neg hq, if_neg hbig, if_neg hsh, if_pos hs4])
              rw [hs4] at HS4
              clear hs4
              generalize (l.drop 16).take k = m at *
              go_enter Try.func70, Try.ntmps70
              go_wp2_with (first
                | ((with_reducible refine at_ 58 rfl ?_); go_must (rw [show 16 + k - 16 = k by omega]; refine step_append_rd (ok := fun _ => False) (ok2 := fun j => ok j ∧ j < w.heap.size) rfl _ _ _ rfl 5 _ 1 1 Try.underlying23 row_byte rfl (by decide) (.slice none 0 0) 0 [] rfl (OwnRow.nil _ _ _ _) _ m.length (Disk.bytes8 m) rfl (HP4.out.kept (hk2.trans hk4 (fun _ _ h => h)) (fun _ _ h => h)) (by rw [Disk.bytes8_len, Nat.mul_one]) (Disk.bytes8_one _) (by rw [hkl2]; simp only [maxLen]; omega) (by rw [hkl2]; omega) ?_); intro v9 w9 hO9 hk9)
                | (go_at_call 82; (have hz := hk2); clear hz; go_loud (refine Rets.use (HS4.out _ hk2) ?_); rintro v4 w4 ⟨rfl, hk4⟩)
                | (go_at_call 83; (have hz := hk2); clear hz; go_loud (refine Rets.use (sum_c _ m (HP4.out.kept hk2 (fun _ _ h => h)) (by rw [hkl2]; omega)) ?_); rintro _ _ ⟨rfl, rfl⟩)
                | (go_at_call 84; (have hz := hg1); clear hz; go_loud (refine Rets.use (HW3.out _ hk2) ?_); rintro _ _ ⟨rfl, rfl⟩)
                | (go_at_call 84; go_loud (refine Rets.use (HW2.out _ hk2) ?_); rintro _ _ ⟨rfl, rfl⟩; (have hg1 := True.intro))
                | (go_at_call 82; go_loud (refine Rets.use (HS1.out _ (Keeps.refl _ _)) ?_); rintro v2 w2 ⟨rfl, hk2⟩)
                | (go_at_call 83; go_loud (refine Rets.use (sum_c _ (l.take 12) HP1.out (by rw [List.length_take]; omega)) ?_); rintro _ _ ⟨rfl, rfl⟩))
              refine bodyPost_ret (ret4 rfl _ _) rfl ?_
              rw [HG.out]
              exact ⟨hk2.trans hk4 (fun _ _ h => h), _, rfl, Rd.nil _ _⟩
            | true =>
              have HG := Lib.hid (show readF l = (q, (l.drop 16).take k, (k : Int) + 20, 0) by rw [HU.out, if_neg hq, if_neg hbig, if_neg hsh, if_neg (by rw [hs4]; simp)])
              rw [hs4] at HS4
              clear hs4
              generalize (l.drop 16).take k = m at *
              go_enter Try.func70, Try.ntmps70
              go_wp2_with (first
                | ((with_reducible refine at_ 58 rfl ?_); go_must (rw [show 16 + k - 16 = k by omega]; refine step_append_rd (ok := fun _ => False) (ok2 := fun j => ok j ∧ j < w.heap.size) rfl _ _ _ rfl 5 _ 1 1 Try.underlying23 row_byte rfl (by decide) (.slice none 0 0) 0 [] rfl (OwnRow.nil _ _ _ _) _ m.length (Disk.bytes8 m) rfl (HP4.out.kept (hk2.trans hk4 (fun _ _ h => h)) (fun _ _ h => h)) (by rw [Disk.bytes8_len, Nat.mul_one]) (Disk.bytes8_one _) (by rw [hkl2]; simp only [maxLen]; omega) (by rw [hkl2]; omega) ?_); intro v9 w9 hO9 hk9)
                | (go_at_call 82; (have hz := hk2); clear hz; go_loud (refine Rets.use (HS4.out _ hk2) ?_); rintro v4 w4 ⟨rfl, hk4⟩)
                | (go_at_call 83; (have hz := hk2); clear hz; go_loud (refine Rets.use (sum_c _ m (HP4.out.kept hk2 (fun _ _ h => h)) (by rw [hkl2]; omega)) ?_); rintro _ _ ⟨rfl, rfl⟩)
                | (go_at_call 84; (have hz := hg1); clear hz; go_loud (refine Rets.use (HW3.out _ hk2) ?_); rintro _ _ ⟨rfl, rfl⟩)
                | (go_at_call 84; go_loud (refine Rets.use (HW2.out _ hk2) ?_); rintro _ _ ⟨rfl, rfl⟩; (have hg1 := True.intro))
                | (go_at_call 82; go_loud (refine Rets.use (HS1.out _ (Keeps.refl _ _)) ?_); rintro v2 w2 ⟨rfl, hk2⟩)
                | (go_at_call 83; go_loud (refine Rets.use (sum_c _ (l.take 12) HP1.out (by rw [List.length_take]; omega)) ?_); rintro _ _ ⟨rfl, rfl⟩))
              refine bodyPost_ret (ret4 rfl _ _) rfl ?_
              rw [HG.out]
              refine ⟨(hk2.trans hk4 (fun _ _ h => h)).trans hk9 (fun j _ h => by simp [Value.ownBlock] at h), v9, rfl, ?_⟩
              have s4 := (hk2.trans hk4 (fun _ _ h => h)).size
              rw [Nat.zero_add, List.nil_append] at hO9
              exact hO9.rd.mono (fun j h => by rcases h with h | h; exact h.elim; omega)
end Go.Proofs.Ytbiohidelhfaiaa
