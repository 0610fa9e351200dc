/-
  Frames: sums, words.
-/
import Derived.Test.YtbiohidelhfaiaaFrameP
import Derived.Test.YtbiohidelhfaiaaMem2
namespace Go.Proofs.Ytbiohidelhfaiaa
open Go.RowKit Go.Canon Go.Mem Go.Args
set_option linter.unusedVariables false
set_option linter.unusedSimpArgs false
/-- One bit of a sum. -/
def crc1 (c : Int) : Int := bits .xor .u32 (c / 2) (bits .and .u32 3988292384 (-bits .and .u32 c 1 % 4294967296))
def crcN : Nat → Int → Int
  | 0, c => c
  | n + 1, c => crc1 (crcN n c)
def crcB (c x : Int) : Int := crcN 8 (bits .xor .u32 c (x % 4294967296))
def crcAll (c : Int) (l : List Int) : Int := l.foldl crcB c
def sumF (l : List Int) : Int := bits .xor .u32 IntKind.u32.max (crcAll 4294967295 l)
theorem crcAll_take {l : List Int} {k : Nat} (h : k < l.length) (c : Int) : crcAll c (l.take (k + 1)) = crcB (crcAll c (l.take k)) l[k] := by
  unfold crcAll
  rw [List.take_add_one, List.getElem?_eq_getElem h, Option.toList_some, List.foldl_append]; rfl
set_option maxHeartbeats 800000 in
theorem sum_c {w : World} {ok : Nat → Prop} (v : Value) (l : List Int) (hr : Rd w ok v l.length (Disk.bytes8 l)) (hl : l.length ≤ 140737488355328) : Calls Try.prog 83 #[v] w (Rets (Only (.int .u32 (sumF l)) w)) := by
  obtain ⟨A, c, rfl, _⟩ := hr.slice
  have HR := Lib.hid hr
  clear hr
  go_enter Try.func83, Try.ntmps83
  go_wp2
  go_loopw [3, 8] (fun cv iv wr => ∃ (k : Nat) (c : Int), k ≤ l.length ∧ iv = .int .i64 k ∧ cv = .int .u32 c ∧ Hid (c = crcAll 4294967295 (l.take k)) ∧ wr = w) (fun _ iv _ => l.length - (intOf iv).toNat)
  case atStart => exact ⟨0, _, Nat.zero_le _, rfl, rfl, Lib.hid rfl, rfl⟩
  case round =>
    obtain ⟨k, cc, hk, rfl, rfl, HC, rfl⟩ := hrel
    by_cases hlt : k < l.length
    · obtain ⟨b, o, c', e, _, hbW, hcell⟩ := HR.out.at (by intro e; have := congrArg List.length e; rw [Disk.bytes8_len, List.length_nil] at this; omega)
      cases e
      have cx : wr.cell? ⟨b, o + k, none⟩ = some (.int .u8 l[k]) := hcell k _ (by simp [Disk.bytes8, hlt])
      have HS := Lib.hid (crcAll_take hlt 4294967295)
      clear hcell
      generalize l[k] = x at *
      go_wp2
      go_loopw [3, 16] (fun cv iv wr2 => ∃ (j : Nat) (c : Int), j ≤ 8 ∧ iv = .int .i64 j ∧ cv = .int .u32 c ∧ Hid (c = crcN j (bits .xor .u32 cc (x % 4294967296))) ∧ wr2 = wr) (fun _ iv _ => 8 - (intOf iv).toNat)
      case atStart => exact ⟨0, _, Nat.zero_le _, rfl, rfl, Lib.hid rfl, rfl⟩
      case round =>
        obtain ⟨j, cd, hj, rfl, rfl, HD, rfl⟩ := hrel
        by_cases hlj : j < 8
        · go_wp2
          go_roundw
          case rel => exact ⟨j + 1, _, hlj, by go_num, rfl, Lib.hid (by rw [crcN, ← HD.out]; rfl), by trivial⟩
          case measure => simp [intOf]; omega
        · obtain rfl : j = 8 := by omega
          go_wp2
          go_roundw
          case rel => exact ⟨k + 1, _, hlt, by go_num, rfl, Lib.hid (by rw [HS.out, ← HC.out, HD.out]; rfl), by trivial⟩
          case measure => simp [intOf]; omega
    · obtain rfl : k = l.length := by omega
      rw [List.take_length] at HC
      go_wp2
      go_ret
      exact ⟨by show Value.int .u32 _ = _; rw [sumF, ← HC.out], rfl⟩
theorem info_byteF : (Try.prog.info? 5).map (·.size) = some 1 := by kernel_rfl
set_option maxHeartbeats 800000 in
theorem wput_c {w : World} (n : Nat) (hn : 1 ≤ n ∧ n ≤ 8) (x : Int) : Calls Try.prog 87 #[.int .u64 x, .int .i64 n] w (Rets (NewRow 5 1 n (Disk.bytes8 (wput n x)) w)) := by
  obtain ⟨n1, n2⟩ := hn
  go_enter Try.func87, Try.ntmps87
  go_wp2_with ((with_reducible refine at_ 14 rfl ?_); go_must (refine step_make rfl _ _ _ rfl 5 _ 1 1 Try.underlying23 row_byte _ _ n rfl rfl (by omega) (by simp only [maxLen]; omega) ?_); intro w2 hb2 hk2)
  rw [show madeCells (Value.int .u8 0).cells (n * 1) = (List.replicate n (Value.int .u8 0)).toArray from by rw [Nat.mul_one]; exact made_rep 1 n (.int .u8 0) (by decide)] at hb2
  have g0 : ∃ g, g = w.heap.size := ⟨_, rfl⟩
  obtain ⟨g, hg⟩ := g0
  rw [← hg] at hb2 ⊢
  have HB := Lib.hid hb2
  have HK := Lib.hid hk2
  have HG := Lib.hid hg
  clear hb2 hk2 hg
  go_loopw [0, 6] (fun xv iv wr => ∃ (i : Nat) (y : Int) (tl : List Int), i ≤ n ∧ iv = .int .i64 ((i : Int) - 1) ∧ xv = .int .u64 y ∧ tl.length + i = n ∧ Hid (wput n x = wput i y ++ tl) ∧ wr.heap[g]? = some (.cells (List.replicate i (Value.int .u8 0) ++ Disk.bytes8 tl).toArray 5 (0, 0)) ∧ Keeps (fun _ => False) w wr) (fun _ iv _ => (intOf iv + 1).toNat)
  case atStart => exact ⟨n, x, [], Nat.le_refl _, rfl, rfl, by simp, Lib.hid (by simp), by rw [HB.out]; simp [Disk.bytes8], HK.out⟩
  case round =>
    obtain ⟨i, y, tl, hi, rfl, rfl, htl, HF, hb, hk⟩ := hrel
    have HBw := Lib.hid hb
    have HKw := Lib.hid hk
    clear hb hk HB HK
    cases i with
    | zero =>
      go_wp2
      go_ret
      have e : wput n x = tl := HF.out
      rw [e]
      exact ⟨own_blk (by have := HBw.out; simpa using this) (by rw [Disk.bytes8_len]; omega) (by omega) (by simp only [maxLen]; omega) (Nat.le_of_eq HG.out.symm), HKw.out⟩
    | succ i =>
      have e1 : ((i + 1 : Nat) : Int) - 1 = (i : Int) := by omega
      rw [e1]
      have e2 : (List.replicate (i + 1) (Value.int .u8 0) ++ Disk.bytes8 tl).set i (.int .u8 (y % 256)) = List.replicate i (Value.int .u8 0) ++ Disk.bytes8 ((y % 256) :: tl) := by
        rw [List.replicate_succ', List.append_assoc, List.set_append_right _ _ (by simp)]
        simp [Disk.bytes8]
      have HE2 := Lib.hid e2
      have hlt : i < n := by omega
      clear e1 e2
      go_wp2_with ((with_reducible refine at_store 5 (.tmp 25) (.tmp 24) rfl ?_); go_must (refine step_store1 rfl _ _ _ rfl g i (.int .u8 (y % 256)) _ _ rfl rfl rfl HBw.out (by simp; omega) info_byteF ?_); intro w7 hb7 hk7 hs7)
      go_roundw
      case rel => exact ⟨i, _, (y % 256) :: tl, by omega, by go_num, rfl, by simp; omega, Lib.hid (by rw [HF.out, wput, List.append_assoc]; rfl), by rw [← HE2.out]; exact hb7, HKw.out.trans hk7 (fun k hk e => by have := HG.out; omega)⟩
      case measure => simp [intOf]
end Go.Proofs.Ytbiohidelhfaiaa
