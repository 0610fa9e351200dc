/-
  The document's frames: some bytes (which ones is not said).
-/
import Derived.Test.YtmkpdoljaccpaaaFrameS
namespace Go.Proofs.Ytmkpdoljaccpaaa
open Go.RowKit Go.Canon Go.Mem Go.Args
set_option linter.unusedVariables false
set_option linter.unusedSimpArgs false
/-- So many bytes, in a block of their own. -/
def SomeRow (n : Nat) (w : World) : Value → World → Prop := fun v w' => ∃ xs : List Int, xs.length = n ∧ IsB xs ∧ OwnRow w' (fun k => w.heap.size ≤ k) 5 1 v n (Disk.bytes8 xs) ∧ Keeps (fun _ => False) w w'
def SomeSum (w : World) : Value → World → Prop := fun v w' => w = w' ∧ ∃ c : Int, v = .int .u32 c
theorem shifted_w {w : World} (c : Int) : Calls Try.prog 75 #[.int .u32 c] w (Rets (SomeSum w)) := by
  go_enter Try.func75, Try.ntmps75
  go_wp2
  go_loopw [0, 3] (fun cv iv wr => ∃ (j : Nat) (d : Int), j ≤ 8 ∧ iv = .int .i64 j ∧ cv = .int .u32 d ∧ wr = w) (fun _ iv _ => 8 - (intOf iv).toNat)
  case atStart => exact ⟨0, c, Nat.zero_le _, rfl, rfl, rfl⟩
  case round =>
    obtain ⟨j, d, hj, rfl, rfl, rfl⟩ := hrel
    by_cases hlj : j < 8
    · have hlj2 : (j : Int) < 8 := by omega
      cases ho : (d.tmod 2 == 1)
      · go_wp2
        go_roundw
        case rel => exact ⟨j + 1, _, hlj, by go_num, rfl, by trivial⟩
        case measure => simp [intOf]; omega
      · go_wp2
        go_roundw
        case rel => exact ⟨j + 1, _, hlj, by go_num, rfl, by trivial⟩
        case measure => simp [intOf]; omega
    · obtain rfl : j = 8 := by omega
      go_wp2
      go_ret
      exact ⟨rfl, _, rfl⟩
theorem rsum_w {w : World} {ok : Nat → Prop} (v : Value) (l : List Int) (hr : Rd w ok v l.length (Disk.bytes8 l)) (hl : l.length ≤ 140737488355328) : Calls Try.prog 66 #[v] w (Rets (SomeSum w)) := by
  obtain ⟨A, c, rfl, _⟩ := hr.slice
  have HR := Lib.hid hr
  clear hr
  go_enter Try.func66, Try.ntmps66
  go_wp2
  go_loopw [3, 4] (fun cv iv wr => ∃ (k : Nat) (c : Int), k ≤ l.length ∧ iv = .int .i64 k ∧ cv = .int .u32 c ∧ wr = w) (fun _ iv _ => l.length - (intOf iv).toNat)
  case atStart => exact ⟨0, _, Nat.zero_le _, rfl, rfl, rfl⟩
  case round =>
    obtain ⟨k, cc, hk, rfl, rfl, rfl⟩ := hrel
    by_cases hlt : k < l.length
    · obtain ⟨b, o, c', e, _, hbW, hcell⟩ := HR.out.at (by intro e; have := congrArg List.length e; rw [Disk.bytes8_len, List.length_nil] at this; omega)
      cases e
      have cx : wr.cell? ⟨b, o + k, none⟩ = some (.int .u8 l[k]) := hcell k _ (by simp [Disk.bytes8, hlt])
      clear hcell
      generalize l[k] = x at *
      go_wp2_with (go_at_call 75; go_loud (refine Rets.use (shifted_w _) ?_); rintro _ _ ⟨rfl, c2, rfl⟩)
      go_roundw
      case rel => exact ⟨k + 1, _, hlt, by go_num, rfl, by trivial⟩
      case measure => simp [intOf]; omega
    · obtain rfl : k = l.length := by omega
      go_wp2
      go_ret
      exact ⟨rfl, _, rfl⟩
theorem four_w {w : World} (c : Int) : Calls Try.prog 65 #[.int .u32 c] w (Rets (SomeRow 4 w)) := by
  go_enter Try.func65, Try.ntmps65
  go_wp2_with ((with_reducible refine at_ 17 rfl ?_); go_must (refine step_lit rfl 38 _ 4 rfl [.int .u8 (c.tmod 256 % 256), .int .u8 (c.tdiv 256 % 256), .int .u8 (c.tdiv 65536 % 256), .int .u8 (c.tdiv 16777216 % 4294967296 % 256)] rfl rfl (by decide) 5 _ 1 Try.underlying38 row2_byte (by decide) (by decide) (by intro v hv; simp at hv; rcases hv with rfl | rfl | rfl | rfl <;> rfl) ?_); intro w2 hb2 hk2 hs2)
  go_ret
  exact ⟨[c.tmod 256 % 256, c.tdiv 256 % 256, c.tdiv 65536 % 256, c.tdiv 16777216 % 4294967296 % 256], rfl, fun x hx => (by simp only [List.mem_cons, List.not_mem_nil, or_false] at hx; rcases hx with rfl | rfl | rfl | rfl <;> omega), lit4 hb2 (Nat.le_refl _), hk2⟩
theorem r1put_w {w : World} (n : Nat) (hn : 1 ≤ n ∧ n ≤ 8) (x : Int) : Calls Try.prog 64 #[.int .u64 x, .int .i64 n] w (Rets (SomeRow n w)) := by
  obtain ⟨n1, n2⟩ := hn
  have n3 : ¬ ((n : Int) < 1) := by omega
  have n4 : ¬ (8 < (n : Int)) := by omega
  go_enter Try.func64, Try.ntmps64
  go_wp2
  go_loopw [5, 6] (fun ov iv wr => ∃ (k : Nat) (xs : List Int), k ≤ n ∧ iv = .int .i64 k ∧ xs.length = k ∧ IsB xs ∧ OwnRow wr (fun k => w.heap.size ≤ k) 5 1 ov k (Disk.bytes8 xs) ∧ Keeps (fun _ => False) w wr) (fun _ iv _ => n - (intOf iv).toNat)
  case atStart => exact ⟨0, [], Nat.zero_le _, rfl, rfl, (by intro y hy; cases hy), OwnRow.nil _ _ _ _, Keeps.refl _ _⟩
  case round =>
    obtain ⟨k, xs, hk, rfl, hx, hb, hO, hK⟩ := hrel
    have HX := Lib.hid hx
    have HB := Lib.hid hb
    have HO := Lib.hid hO
    have HK := Lib.hid hK
    clear hx hb hO hK
    by_cases hlt : k < n
    · go_wp2
      go_loopw [7, 8] (fun yv jv wr2 => ∃ (j : Nat) (z : Int), j ≤ n ∧ jv = .int .i64 j ∧ yv = .int .u64 z ∧ wr2 = wr) (fun _ jv _ => n - (intOf jv).toNat)
      case atStart => exact ⟨k + 1, x, hlt, by go_num, rfl, rfl⟩
      case round =>
        obtain ⟨j, z, hj, rfl, rfl, rfl⟩ := hrel
        by_cases hlj : j < n
        · go_wp2
          go_roundw
          case rel => exact ⟨j + 1, _, hlj, by go_num, rfl, by trivial⟩
          case measure => simp [intOf]; omega
        · obtain rfl : j = n := by omega
          obtain ⟨A, c, rfl, _⟩ := HO.out.slice
          go_wp2_with (first
            | ((with_reducible refine at_ 34 rfl ?_); go_must (refine step_lit rfl 38 _ 1 rfl [.int .u8 (z.tmod 256 % 256)] rfl rfl (by decide) 5 _ 1 Try.underlying38 row2_byte (by decide) (by decide) (by intro v hv; rw [List.mem_singleton] at hv; subst hv; rfl) ?_); intro w2 hb2 hk2 hs2)
            | ((with_reducible refine at_ 35 rfl ?_); go_must (refine step_append_rd (ok2 := fun k => w.heap.size ≤ k) rfl _ _ _ rfl 5 _ 1 1 Try.underlying38 row_byte rfl (by decide) (.slice A k c) k _ rfl (HO.out.kept hk2 (fun _ _ h => h)) _ 1 _ rfl (lit_rd rfl hb2 HK.out.size) rfl (by intro y hy; rw [List.mem_singleton] at hy; subst hy; rfl) (by simp only [maxLen]; omega) (by omega) ?_); intro v3 w3 hO3 hk3))
          go_roundw
          case rel =>
            refine ⟨k + 1, xs ++ [z.tmod 256 % 256], hlt, by go_num, by rw [List.length_append, HX.out]; rfl, fun y hy => ?_, ?_, (HK.out.trans hk2 (fun _ _ h => h)).trans hk3 (fun k hk h => by have := HO.out.2 k h; omega)⟩
            · rcases List.mem_append.1 hy with hy | hy
              · exact HB.out y hy
              · rw [List.mem_singleton] at hy; subst hy; omega
            · rw [Disk.bytes8_append]
              exact hO3.mono (fun k _ h => by rcases h with h | h; exact h; have := HK.out.size; have := hk2.size; omega)
          case measure => simp [intOf]; omega
    · obtain rfl : k = n := by omega
      go_wp2
      go_ret
      exact ⟨xs, HX.out, HB.out, HO.out, HK.out⟩
theorem r1put4_w {w : World} (x : Int) : Calls Try.prog 64 #[.int .u64 x, .int .i64 4] w (Rets (SomeRow 4 w)) := r1put_w 4 (by decide) x
theorem r1put8_w {w : World} (x : Int) : Calls Try.prog 64 #[.int .u64 x, .int .i64 8] w (Rets (SomeRow 8 w)) := r1put_w 8 (by decide) x
def SomePut (n : Nat) (w : World) : Value → World → Prop := fun v w' => ∃ u, v = .tuple #[u, .int .i64 0] ∧ SomeRow n w u w'
/-- One row behind another. -/
theorem row_app {w w2 w3 : World} {n m : Nat} {v : Value} {xs ys : List Int} (z : w.heap.size ≤ w2.heap.size) (h : OwnRow w3 (fun k => w.heap.size ≤ k ∨ w2.heap.size ≤ k) 5 1 v (n + m) (Disk.bytes8 xs ++ Disk.bytes8 ys)) : OwnRow w3 (fun k => w.heap.size ≤ k) 5 1 v (n + m) (Disk.bytes8 (xs ++ ys)) := by
  rw [Disk.bytes8_append]
  exact h.mono (fun k _ h => by rcases h with h | h; exact h; omega)
theorem app_byte {xs ys : List Int} (h : IsB xs) (h2 : IsB ys) : IsB (xs ++ ys) := fun y hy => by
  rcases List.mem_append.1 hy with hy | hy
  · exact h y hy
  · exact h2 y hy
set_option maxHeartbeats 1600000 in
theorem r8put_w {w : World} {ok : Nat → Prop} (seq : Int) (hs : 1 ≤ seq) (v : Value) (b : List Int) (hb : IsB b) (hr : Rd w ok v b.length (Disk.bytes8 b)) (hl : b.length ≤ 16384) : Calls Try.prog 45 #[.int .u64 seq, v] w (Rets (SomePut (b.length + 20) w)) := by
  obtain ⟨A, c, rfl, _⟩ := hr.slice
  have HR := Lib.hid hr
  have h0 : (seq == 0) = false := by simp; omega
  have hbig : ¬ (16384 < (b.length : Int)) := by omega
  clear hr
  go_enter Try.func45, Try.ntmps45
  go_wp2_with (first
    | ((with_reducible refine at_ 33 rfl ?_); go_must (refine step_append_rd (ok2 := fun k => w7.heap.size ≤ k) rfl _ _ _ rfl 5 _ 1 1 Try.underlying38 row_byte rfl (by decide) v7 _ _ rfl (hO7.kept hk8 (fun _ _ h => h)) _ 4 (Disk.bytes8 x8) rfl hO8.rd (by rw [Disk.bytes8_len, l8]) (Disk.bytes8_one _) (by simp only [maxLen]; omega) (by omega) ?_); intro v9 w9 hO9 hk9)
    | (go_at_call 65; (have hz := hO7); clear hz; refine Rets.use (four_w _) ?_; rintro v8 w8 ⟨x8, l8, b8, hO8, hk8⟩)
    | (go_at_call 66; (have hz := hO7); clear hz; refine Rets.use (rsum_w _ b (HR.out.lt.kept hk07 (fun k h h' => by omega)) (by omega)) ?_; rintro _ _ ⟨rfl, c7, rfl⟩)
    | ((with_reducible refine at_ 28 rfl ?_); go_must (refine step_append_rd (ok2 := fun k => ok k ∧ k < w.heap.size) rfl _ _ _ rfl 5 _ 1 1 Try.underlying38 row_byte rfl (by decide) v6 _ _ rfl hO6 _ b.length (Disk.bytes8 b) rfl (HR.out.lt.kept hk06 (fun k h h' => by omega)) (by rw [Disk.bytes8_len, Nat.mul_one]) (Disk.bytes8_one _) (by simp only [maxLen]; omega) (by omega) ?_); intro v7 w7 hO7' hk7; (have hO7 := row_app hk06.size hO7'); (have hk07 := hk06.trans hk7 (fun k _ h => hO6.2 k h)); have sz7 := hk07.size)
    | ((with_reducible refine at_ 25 rfl ?_); go_must (refine step_append_rd (ok2 := fun k => w4.heap.size ≤ k) rfl _ _ _ rfl 5 _ 1 1 Try.underlying38 row_byte rfl (by decide) v4 _ _ rfl (hO4.kept hk5 (fun _ _ h => h)) _ 4 (Disk.bytes8 x5) rfl hO5.rd (by rw [Disk.bytes8_len, l5]) (Disk.bytes8_one _) (by simp only [maxLen]; omega) (by omega) ?_); intro v6 w6 hO6' hk6; (have hO6 := row_app (hk04.trans hk5 (fun _ _ h => h.elim)).size hO6'); (have hk06 := (hk04.trans hk5 (fun _ _ h => h.elim)).trans hk6 (fun k _ h => hO4.2 k h)); have sz6 := hk06.size)
    | (go_at_call 65; (have hz := hO4); clear hz; refine Rets.use (four_w _) ?_; rintro v5 w5 ⟨x5, l5, b5, hO5, hk5⟩)
    | (go_at_call 66; (have hz := hO4); clear hz; refine Rets.use (rsum_w _ (x1 ++ x2) (hO3.rd.kept hk4 (fun _ _ h => h)) (by omega)) ?_; rintro _ _ ⟨rfl, c3, rfl⟩)
    | (go_at_call 23; (have hz := hO3); clear hz; refine Rets.use (copy_c _ (x1 ++ x2) hO3.rd (by omega)) ?_; rintro v4 w4 ⟨hO4', hk4⟩; (have hO4 := hO4'.mono (ok' := fun k => w.heap.size ≤ k) (fun k _ h => by omega)); have hk04 := hk03.trans hk4 (fun _ _ h => h.elim); rw [l12] at hO4)
    | ((with_reducible refine at_ 19 rfl ?_); go_must (refine step_append_rd (ok2 := fun k => w1.heap.size ≤ k) rfl _ _ _ rfl 5 _ 1 1 Try.underlying38 row_byte rfl (by decide) v1 4 _ rfl (hO1.kept hk2 (fun _ _ h => h)) _ 8 _ rfl hO2.rd (by rw [Disk.bytes8_len, l2]) (Disk.bytes8_one _) (by simp only [maxLen]; omega) (by omega) ?_); intro v3 w3 hO3' hk3; (have hO3 := row_app (hk1.trans hk2 (fun _ _ h => h)).size hO3'); (have hk03 : Keeps (fun k => w.heap.size ≤ k) w w3 := ((hk1.trans hk2 (fun _ _ h => h)).mono (fun _ _ h => h.elim)).trans hk3 (fun k _ h => hO1.2 k h)); have sz3 := hk03.size; (have l12 : (x1 ++ x2).length = 4 + 8 := (by rw [List.length_append, l1, l2])); rw [← l12] at hO3)
    | (go_at_call 64; (have hz := hO1); clear hz; refine Rets.use (r1put8_w _) ?_; rintro v2 w2 ⟨x2, l2, b2, hO2, hk2⟩)
    | (go_at_call 64; refine Rets.use (r1put4_w _) ?_; rintro v1 w1 ⟨x1, l1, b1, hO1, hk1⟩))
  go_ret2
  have s7 := hk8.size
  refine ⟨v9, rfl, x1 ++ x2 ++ x5 ++ b ++ x8, by simp only [List.length_append]; omega, app_byte (app_byte (app_byte (app_byte b1 b2) b5) hb) b8, ?_, ((hk07.trans hk8 (fun _ _ h => h.elim)).trans hk9 (fun k _ h => hO7.2 k h)).mono (fun k hk h => by omega)⟩
  have := row_app (hk07.trans hk8 (fun _ _ h => h.elim)).size hO9
  rw [show b.length + 20 = 4 + 8 + 4 + b.length + 4 by omega]
  exact this
end Go.Proofs.Ytmkpdoljaccpaaa
