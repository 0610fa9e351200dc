/-
  A log's parts: all bytes of a disk, blank bytes, noughts behind the end.
-/
import Derived.Test.YtbiohidelhfaiaaFrameS
import Derived.Test.YtbiohidelhfaiaaClone
namespace Go.Proofs.Ytbiohidelhfaiaa
open Go.RowKit Go.Canon Go.Mem Go.Args
open Go.Disk (St)
set_option linter.unusedVariables false
set_option linter.unusedSimpArgs false
/-- All bytes. -/
def flatS (l : List (List Int)) : List Int := l.flatten
theorem flatS_len {l : List (List Int)} (h : ∀ x ∈ l, x.length = 64) : (flatS l).length = l.length * 64 := by
  unfold flatS
  induction l with
  | nil => rfl
  | cons x r ih => rw [List.flatten_cons, List.length_append, ih (fun y hy => h y (List.mem_cons_of_mem _ hy)), h x (List.mem_cons_self ..), List.length_cons]; omega
def blankF (l : List Int) : Bool := l.all fun x => x == 0
theorem read_on {s : St} (h : s.off = false) {i : Nat} (hi : i < s.now.length) : s.read i = (s.now[i], 0) := by
  unfold St.read St.at_
  rw [if_neg (by rw [h]; simp), if_pos (by omega)]
  simp only [Int.toNat_natCast]
  rw [List.getElem?_eq_getElem hi]
def WReadPost (w : World) (s : St) : Value → World → Prop := fun v w' => Keeps (fun _ => False) w w' ∧ ((s.off = true ∧ v = .tuple #[.slice none 0 0, .int .i64 14]) ∨ (s.off = false ∧ ∃ u, v = .tuple #[u, .int .i64 0] ∧ OwnRow w' (fun k => w.heap.size ≤ k) 5 1 u (flatS s.now).length (Disk.bytes8 (flatS s.now))))
theorem sec_rd {w : World} {B b : Nat} {l : List Int} (hl : l.length = 64) (hB : B ≤ b) (hb : w.heap[b]? = some (.cells (Disk.bytes8 l).toArray 117 (0, 0))) : Rd w (fun k => B ≤ k) (.slice (some ⟨b, 0, none⟩) 64 64) l.length (Disk.bytes8 l) := by
  rw [hl]
  exact ⟨_, _, rfl, Nat.le_refl _, fun h => (by cases h), .inr ⟨b, 0, rfl, hB, fun j u hu => by rw [cell_of_row w _ _ _ _ _ hb, Nat.zero_add]; simpa using hu⟩⟩
set_option maxHeartbeats 1600000 in
theorem wread_c {w : World} {S : Nat → Prop} {g : Nat} {s : St} (h : DIs w S g s) : Calls Try.prog 68 #[.pointer (some ⟨g, 0, none⟩)] w (Rets (WReadPost w s)) := by
  have HH := Lib.hid h
  have hpos := h.ok.pos
  have hmost := h.ok.most
  have H64 := Lib.hid h.ok.n64
  have HS := Lib.hid (dSectors_c h)
  clear h
  cases ho : s.off with
  | true =>
    have HR := Lib.hid (dRead_c HH.out 0)
    have HE := Lib.hid (show s.read 0 = ([], 14) by unfold St.read; rw [if_pos ho])
    have hlt : (0 : Int) < s.now.length := by omega
    go_enter Try.func68, Try.ntmps68
    go_wp2_with (go_at_call 67; refine Rets.use HS.out ?_; rintro _ _ ⟨rfl, rfl⟩)
    go_loopw [4, 10] (fun lv iv wr => lv = .slice none 0 0 ∧ iv = .int .i64 0 ∧ wr = w) (fun _ _ _ => 0)
    case atStart => exact ⟨rfl, rfl, rfl⟩
    case round =>
      obtain ⟨rfl, rfl, rfl⟩ := hrel
      go_wp2_with (go_at_call 81; go_loud (refine Rets.use HR.out ?_); intro v1 w1 hp1; unfold ReadPost at hp1; rw [HE.out] at hp1; obtain ⟨hk1, hp1⟩ := hp1; obtain ⟨_, _, rfl⟩ := hp1.resolve_right (fun h => by simp at h))
      go_ret2
      exact ⟨hk1, .inl ⟨ho, rfl⟩⟩
  | false =>
    have HO := Lib.hid ho
    go_enter Try.func68, Try.ntmps68
    go_wp2_with (go_at_call 67; refine Rets.use HS.out ?_; rintro _ _ ⟨rfl, rfl⟩)
    go_loopw [4, 10] (fun lv iv wr => ∃ (k : Nat) (l : List Int), k ≤ s.now.length ∧ iv = .int .i64 k ∧ Hid (l = flatS (s.now.take k)) ∧ l.length = k * 64 ∧ OwnRow wr (fun j => w.heap.size ≤ j) 5 1 lv l.length (Disk.bytes8 l) ∧ Keeps (fun _ => False) w wr) (fun _ iv _ => s.now.length - (intOf iv).toNat)
    case atStart => exact ⟨0, [], Nat.zero_le _, rfl, Lib.hid rfl, rfl, OwnRow.nil _ _ _ _, Keeps.refl _ _⟩
    case round =>
      obtain ⟨k, l, hk, rfl, HL, hll, hO, hK⟩ := hrel
      have HOl := Lib.hid hO
      have HKl := Lib.hid hK
      obtain ⟨A, c, rfl, _⟩ := hO.slice
      have szk := hK.size
      have hl2 : l.length ≤ 262144 := by omega
      have HLL := Lib.hid hll
      clear hO hK hll
      by_cases hlt : k < s.now.length
      · have HR := Lib.hid (dRead_c (HH.out.kept HKl.out (fun _ _ h => h)) k)
        have HE := Lib.hid (read_on HO.out hlt)
        have HT := Lib.hid (show flatS (s.now.take (k + 1)) = flatS (s.now.take k) ++ s.now[k] by unfold flatS; rw [List.take_add_one, List.getElem?_eq_getElem hlt, List.flatten_append]; simp)
        have h64 := H64.out s.now[k] (List.getElem_mem _)
        generalize s.now[k] = sec at *
        go_wp2_with (first
          | ((with_reducible refine at_ 24 rfl ?_); go_must (refine step_append_rd (ok2 := fun j => wr.heap.size ≤ j) rfl _ _ _ rfl 5 _ 1 1 Try.underlying23 row_byte rfl (by decide) (.slice A l.length c) l.length (Disk.bytes8 l) rfl (HOl.out.kept hk1 (fun _ _ h => h)) _ sec.length (Disk.bytes8 sec) rfl hr1 (by rw [Disk.bytes8_len, Nat.mul_one]) (Disk.bytes8_one _) (by simp only [maxLen]; omega) (by omega) ?_); intro v8 w8 hO8 hk8)
          | (go_at_call 81; go_loud (refine Rets.use HR.out ?_); intro v1 w1 hp1; unfold ReadPost at hp1; rw [HE.out] at hp1; obtain ⟨hk1, hp1⟩ := hp1; obtain ⟨_, _, b1, hb1, rfl, hB1⟩ := hp1.resolve_left (fun h => h.1 rfl); have hr1 := sec_rd h64 hb1 hB1))
        go_roundw
        case rel => exact ⟨k + 1, l ++ sec, hlt, by go_num, Lib.hid (by rw [HT.out, HL.out]), by rw [List.length_append, HLL.out]; omega, by rw [List.length_append, Disk.bytes8_append]; exact hO8.mono (fun j _ h => by have := hk1.size; rcases h with h | h; exact h; omega), (HKl.out.trans hk1 (fun _ _ h => h)).trans hk8 (fun j hj h => by have := HOl.out.2 j h; omega)⟩
        case measure => simp [intOf]; omega
      · obtain rfl : k = s.now.length := by omega
        have HF := Lib.hid (show l = flatS s.now by have := HL.out; rwa [List.take_length] at this)
        go_wp2
        go_ret2
        exact ⟨HKl.out, .inr ⟨HO.out, _, rfl, by rw [← HF.out]; exact HOl.out⟩⟩
theorem blank_step {l : List Int} {k : Nat} (h : k < l.length) : blankF (l.take (k + 1)) = (blankF (l.take k) && l[k] == 0) := by
  unfold blankF
  rw [List.take_add_one, List.getElem?_eq_getElem h, Option.toList_some, List.all_append]; simp
theorem blank_no {l : List Int} {k : Nat} (h : k < l.length) (h0 : l[k] ≠ 0) : blankF l = false := by
  unfold blankF
  rw [List.all_eq_false]
  exact ⟨l[k], List.getElem_mem _, by simpa using h0⟩
set_option maxHeartbeats 800000 in
theorem blank_c {w : World} {ok : Nat → Prop} (v : Value) (l : List Int) (hr : Rd w ok v l.length (Disk.bytes8 l)) (hl : l.length ≤ 1000000) : Calls Try.prog 69 #[v] w (Rets (Only (.bool (blankF l)) w)) := by
  obtain ⟨A, c, rfl, _⟩ := hr.slice
  have HR := Lib.hid hr
  clear hr
  go_enter Try.func69, Try.ntmps69
  go_wp2
  go_loopw [7] (fun iv wr => ∃ k : Nat, k ≤ l.length ∧ iv = .int .i64 k ∧ Hid (blankF (l.take k) = true) ∧ wr = w) (fun iv _ => l.length - (intOf iv).toNat)
  case atStart => exact ⟨0, Nat.zero_le _, rfl, rfl, rfl⟩
  case round =>
    obtain ⟨k, hk, rfl, HB, rfl⟩ := hrel
    by_cases hlt : k < l.length
    · obtain ⟨b, o, c', e, _, hbW, hcell⟩ := HR.out.at (by intro e; have := congrArg List.length e; rw [Disk.bytes8_len, List.length_nil] at this; omega)
      cases e
      have cx : wr.cell? ⟨b, o + k, none⟩ = some (.int .u8 l[k]) := hcell k _ (by simp [Disk.bytes8, hlt])
      have HS := Lib.hid (blank_step hlt)
      have HN := Lib.hid (fun h => blank_no hlt h)
      clear hcell
      generalize l[k] = x at *
      by_cases hx : x = 0
      · subst hx
        go_wp2
        go_roundw
        case rel => exact ⟨k + 1, hlt, by go_num, by show _ = _; rw [HS.out, HB.out]; rfl, by trivial⟩
        case measure => simp [intOf]; omega
      · have hxb : (x == 0) = false := by simpa using hx
        have hxn : (x != 0) = true := by simpa using hx
        have HF := Lib.hid (HN.out hx)
        go_wp2
        go_ret
        rw [HF.out]
        exact ⟨rfl, rfl⟩
    · obtain rfl : k = l.length := by omega
      rw [List.take_length] at HB
      go_wp2
      go_ret
      rw [HB.out]
      exact ⟨rfl, rfl⟩
end Go.Proofs.Ytbiohidelhfaiaa
