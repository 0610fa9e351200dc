/-
  The walks of the document's reader: counts, two, sized, Whole; ChunkReads.
-/
import Derived.Test.YtibegbmehpggbaaLit
import Derived.Test.YtibegbmehpggbaaArgs
import Derived.Test.YtibegbmehpggbaaChunkR
namespace Go.Proofs.Ytibegbmehpggbaa
open Go.RowKit Go.Canon Go.Mem Go.Args
set_option linter.unusedVariables false
set_option linter.unusedSimpArgs false
set_option linter.unnecessarySimpa false
def letter (k : Nat) : Int := if k < 10 then 48 + (k : Int) else 87 + (k : Int)
def hexS : ByteArray := ⟨#[48, 49, 50, 51, 52, 53, 54, 55, 56, 57, 97, 98, 99, 100, 101, 102]⟩
theorem letter_str : ∀ k : Fin 16, ((hexS[k.val]'(by have := k.isLt; simpa [hexS, ByteArray.size] using this)).toNat : Int) = letter k.val := by decide
theorem index_hex (k : Nat) (h : k < 16) (w : World) : (Instr.index 9 (.string hexS) (.int .i64 k)).run Try.prog w = .ok (.int .u8 (letter k)) w := by
  rw [run_index_string w 9 hexS .i64 k Try.underlying9, dif_pos ⟨by omega, by have : hexS.size = 16 := rfl; omega⟩]
  have := letter_str ⟨k, h⟩
  simp only at this
  simp [this]
theorem counts_letter (k : Nat) (h : k < 16) : Chunk.counts (letter k) = k := by
  unfold Chunk.counts Chunk.digit letter
  split <;> split <;> (try split) <;> omega
theorem counts_none {x : Int} (h0 : 0 ≤ x) (h : ∀ k : Nat, k < 16 → letter k ≠ x) : Chunk.counts x = 16 := by
  unfold Chunk.counts Chunk.digit
  by_cases h1 : 48 ≤ x ∧ x ≤ 57
  · have := h (x - 48).toNat (by omega)
    unfold letter at this
    rw [if_pos (by omega)] at this
    omega
  · by_cases h2 : 97 ≤ x ∧ x ≤ 102
    · have := h (x - 87).toNat (by omega)
      unfold letter at this
      rw [if_neg (by omega)] at this
      omega
    · simp [h1, h2]
set_option maxHeartbeats 1600000 in
set_option maxRecDepth 100000 in
theorem counts_c (x : Int) (h0 : 0 ≤ x) (w : World) : Calls Try.prog 66 #[.int .u8 x] w (Rets (Only (.int .i64 (Chunk.counts x)) w)) := by
  go_enter Try.func66, Try.ntmps66
  go_wp2
  go_loopw [3] (fun i wr => ∃ k : Nat, k ≤ 16 ∧ i = .int .i64 k ∧ wr = w ∧ Hid (∀ j : Nat, j < k → letter j ≠ x)) (fun i _ => 16 - (intOf i).toNat)
  case atStart => exact ⟨0, by omega, rfl, rfl, Lib.hid (fun j hj => by omega)⟩
  case round =>
    obtain ⟨k, hk, rfl, rfl, HN⟩ := hrel
    by_cases hlt : k < 16
    · have hs : (Instr.index 9 (.string ⟨#[48, 49, 50, 51, 52, 53, 54, 55, 56, 57, 97, 98, 99, 100, 101, 102]⟩) (.int .i64 k)).run Try.prog wr = .ok (.int .u8 (letter k)) wr := index_hex k hlt wr
      by_cases he : letter k = x
      · have HC := Lib.hid (show Chunk.counts x = k by rw [← he]; exact counts_letter k hlt)
        have hb : (letter k == x) = true := by simpa using he
        clear he
        go_wp2
        go_ret
        exact ⟨by rw [HC.out]; rfl, rfl⟩
      · have hb : (letter k == x) = false := by simpa using he
        have HN2 := Lib.hid (show ∀ j : Nat, j < k + 1 → letter j ≠ x by intro j hj; by_cases hjk : j = k; subst hjk; exact he; exact HN.out j (by omega))
        clear he
        go_wp2
        go_roundw
        case rel => exact ⟨k + 1, by omega, by go_num, by trivial, HN2⟩
        case measure => simp [intOf]; omega
    · obtain rfl : k = 16 := by omega
      have HC := Lib.hid (counts_none h0 HN.out)
      go_wp2
      go_ret
      exact ⟨by rw [HC.out]; rfl, rfl⟩
set_option maxHeartbeats 1600000 in
theorem two_c {ok : Nat → Prop} {w : World} (v : Value) (l : List Int) (hr : Rd w ok v l.length (Disk.bytes8 l)) : Calls Try.prog 61 #[v] w (Rets (Only (.int .i64 (Chunk.two l)) w)) := by
  match l, hr with
  | [], hr =>
    obtain ⟨A, c, rfl, hc, _⟩ := hr.slice
    clear hr
    go_enter Try.func61, Try.ntmps61
    go_wp2
    go_ret
    exact ⟨rfl, rfl⟩
  | [x], hr =>
    obtain ⟨b, o, c, rfl, hc, _, hcell⟩ := hr.at (by simp [Disk.bytes8])
    have c0 : w.cell? ⟨b, o, none⟩ = some (.int .u8 x) := by simpa using hcell 0 _ rfl
    clear hr hcell
    by_cases hx : x = 13
    · subst hx
      go_enter Try.func61, Try.ntmps61
      go_wp2
      go_ret
      exact ⟨rfl, rfl⟩
    · have HT := Lib.hid (show Chunk.two [x] = 4 by simp [Chunk.two, hx])
      have hb : (x != 13) = true := by simpa using hx
      clear hx
      go_enter Try.func61, Try.ntmps61
      go_wp2
      go_ret
      exact ⟨by rw [HT.out]; rfl, rfl⟩
  | x :: y :: l, hr =>
    obtain ⟨b, o, c, rfl, hc, _, hcell⟩ := hr.at (by simp [Disk.bytes8])
    have c0 : w.cell? ⟨b, o, none⟩ = some (.int .u8 x) := by simpa using hcell 0 _ rfl
    have c1 : w.cell? ⟨b, o + 1, none⟩ = some (.int .u8 y) := by simpa using hcell 1 _ rfl
    have hn : 2 ≤ (x :: y :: l).length := by simp
    have HT := Lib.hid (show Chunk.two (x :: y :: l) = if x = 13 ∧ y = 10 then 0 else 4 from rfl)
    generalize hL : x :: y :: l = L at *
    clear hr hcell hL
    by_cases hx : x = 13
    · subst hx
      by_cases hy : y = 10
      · subst hy
        go_enter Try.func61, Try.ntmps61
        go_wp2
        go_ret
        exact ⟨by rw [HT.out]; rfl, rfl⟩
      · have hb : (y != 10) = true := by simpa using hy
        have HT2 := Lib.hid (show Chunk.two L = 4 by rw [HT.out]; simp [hy])
        clear hy HT
        go_enter Try.func61, Try.ntmps61
        go_wp2
        go_ret
        exact ⟨by rw [HT2.out]; rfl, rfl⟩
    · have hb : (x != 13) = true := by simpa using hx
      have HT2 := Lib.hid (show Chunk.two L = 4 by rw [HT.out]; simp [hx])
      clear hx HT
      go_enter Try.func61, Try.ntmps61
      go_wp2
      go_ret
      exact ⟨by rw [HT2.out]; rfl, rfl⟩
theorem tail_at {w : World} {ok : Nat → Prop} {b o c : Nat} {l : List Int} (h : Rd w ok (.slice (some ⟨b, o, none⟩) l.length c) l.length (Disk.bytes8 l)) {k : Nat} (hk : k < l.length) : Rd w ok (.slice (some ⟨b, o + k, none⟩) (l.length - k) (c - k)) (l.drop k).length (Disk.bytes8 (l.drop k)) := by
  have hc : l.length ≤ c := by obtain ⟨A, c', e, h2, _⟩ := h.slice; cases e; exact h2
  have := tail8 h k (Nat.le_of_lt hk)
  unfold sliced at this
  rw [if_neg (by omega), Nat.mul_one] at this
  by_cases h0 : k = 0
  · subst h0; simpa [Addr.add] using this
  · simpa [Addr.add, h0] using this
theorem tail_end {w : World} {ok : Nat → Prop} {A : Option Addr} {c : Nat} {l : List Int} (h : Rd w ok (.slice A l.length c) l.length (Disk.bytes8 l)) : Rd w ok (.slice (if c = l.length then A else A.map (fun x => x.add l.length)) 0 (c - l.length)) ([] : List Int).length (Disk.bytes8 []) := by
  have := tail8 h l.length (Nat.le_refl _)
  unfold sliced at this
  rw [List.drop_length, Nat.mul_one, Nat.sub_self] at this
  exact this
set_option maxHeartbeats 3200000 in
theorem sized_c {ok : Nat → Prop} {w : World} (v : Value) (l : List Int) (m : Int) (hr : Rd w ok v l.length (Disk.bytes8 l)) (hl : l.length ≤ 999999) (hB : Byte l) (hm : m ≤ 2048) : Calls Try.prog 60 #[v, .int .i64 m] w (Rets (Only (.tuple #[.int .i64 (Chunk.sz m l 0 0).1, .int .i64 (Chunk.sz m l 0 0).2.1, .int .i64 (Chunk.sz m l 0 0).2.2]) w)) := by
  obtain ⟨A, c, rfl, hc, hz⟩ := hr.slice
  have HR := Lib.hid hr
  have HB := Lib.hid hB
  clear hr hB hz
  go_enter Try.func60, Try.ntmps60
  go_wp2
  go_loopw [7, 8] (fun ns i wr => ∃ (k : Nat) (n : Int), k ≤ l.length ∧ i = .int .i64 k ∧ ns = .int .i64 n ∧ 0 ≤ n ∧ n ≤ 2048 ∧ wr = w ∧ Hid (Chunk.sz m (l.drop k) n k = Chunk.sz m l 0 0)) (fun _ i _ => l.length - (intOf i).toNat)
  case atStart => exact ⟨0, 0, Nat.zero_le _, rfl, rfl, by decide, by decide, rfl, Lib.hid rfl⟩
  case round =>
    obtain ⟨k, n, hk, rfl, rfl, n0, n1, rfl, HS⟩ := hrel
    by_cases hlt : k < l.length
    · obtain ⟨b, o, c', e, _, _, hcell⟩ := HR.out.at (by intro e; have := congrArg List.length e; rw [Disk.bytes8_len, List.length_nil] at this; omega)
      cases e
      have cx : wr.cell? ⟨b, o + k, none⟩ = some (.int .u8 l[k]) := hcell k _ (by simp [Disk.bytes8, hlt])
      obtain ⟨x0, x1⟩ := HB.out l[k] (List.getElem_mem _)
      have HT := Lib.hid (tail_at HR.out hlt)
      have HD := Lib.hid (drop_at hlt)
      rw [drop_at hlt, Chunk.sz] at HS
      generalize l[k] = x at *
      have hc16 : Chunk.counts x ≤ 16 := by have := Chunk.digit_le x; unfold Chunk.counts; split <;> omega
      have hc0 : 0 ≤ Chunk.counts x := by unfold Chunk.counts; split <;> omega
      clear hcell
      by_cases h13 : 0 < k ∧ x = 13
      · have HE := Lib.hid (show Chunk.sz m l 0 0 = (n, (k : Int) + 2, Chunk.two (l.drop k)) by rw [← HS.out, if_pos ⟨by omega, h13.2⟩, HD.out])
        obtain ⟨hk0, rfl⟩ := h13
        clear HS HD
        go_wp2_with (go_at_call 61; go_loud (refine Rets.use (two_c _ _ HT.out) ?_); rintro v1 w1 ⟨rfl, rfl⟩)
        go_ret3
        exact ⟨by rw [HE.out]; rfl, rfl⟩
      · have HS := Lib.hid (show (if Chunk.counts x = 16 ∨ (0 < (k : Int) ∧ n = 0) then (0, 0, 4) else if m < 16 * n + Chunk.counts x then (0, 0, 5) else Chunk.sz m (l.drop (k + 1)) (16 * n + Chunk.counts x) ((k : Int) + 1)) = Chunk.sz m l 0 0 by have := HS.out; rw [if_neg (fun h => h13 ⟨by omega, h.2⟩)] at this; exact this)
        clear HT HD
        by_cases hk0 : k = 0
        · subst hk0
          have cx0 : wr.cell? ⟨b, o, none⟩ = some (.int .u8 x) := by simpa using cx
          clear h13
          by_cases hd : Chunk.counts x = 16
          · have HE := Lib.hid (show Chunk.sz m l 0 0 = (0, 0, 4) by rw [← HS.out, if_pos (.inl hd)])
            have HC := Lib.hid (counts_c x x0 wr)
            rw [hd] at HC
            clear HS hd
            go_wp2_with (go_at_call 66; refine Rets.use HC.out ?_; rintro v1 w1 ⟨rfl, rfl⟩)
            go_ret3
            exact ⟨by rw [HE.out]; rfl, rfl⟩
          · have hdb : (Chunk.counts x == 16) = false := by simpa using hd
            have HC := Lib.hid (counts_c x x0 wr)
            have HS := Lib.hid (show (if m < 16 * n + Chunk.counts x then (0, 0, 5) else Chunk.sz m (l.drop (0 + 1)) (16 * n + Chunk.counts x) (((0 : Nat) : Int) + 1)) = Chunk.sz m l 0 0 by have := HS.out; rw [if_neg (by rintro (h | h); exact hd h; first | exact hn0 h.2 | exact absurd h.1 (by decide))] at this; exact this)
            clear hd
            generalize Chunk.counts x = d at *
            by_cases hbig : m < 16 * n + d
            · have HE := Lib.hid (show Chunk.sz m l 0 0 = (0, 0, 5) by rw [← HS.out, if_pos hbig])
              clear HS
              go_wp2_with (go_at_call 66; refine Rets.use HC.out ?_; rintro v1 w1 ⟨rfl, rfl⟩)
              go_ret3
              exact ⟨by rw [HE.out]; rfl, rfl⟩
            · have HS := Lib.hid (show Chunk.sz m (l.drop (0 + 1)) (16 * n + d) (((0 : Nat) : Int) + 1) = Chunk.sz m l 0 0 by have := HS.out; rw [if_neg hbig] at this; exact this)
              go_wp2_with (go_at_call 66; refine Rets.use HC.out ?_; rintro v1 w1 ⟨rfl, rfl⟩)
              go_roundw
              case rel => exact ⟨0 + 1, 16 * n + d, by omega, by go_num, by go_num, by omega, by omega, by trivial, Lib.hid (by rw [← HS.out]; congr 1)⟩
              case measure => simp [intOf]; omega
        · have hx13 : (x == 13) = false := by simp; intro h; exact h13 ⟨by omega, h⟩
          have hkp : 0 < k := by omega
          clear h13
          by_cases hd : Chunk.counts x = 16
          · have HE := Lib.hid (show Chunk.sz m l 0 0 = (0, 0, 4) by rw [← HS.out, if_pos (.inl hd)])
            have HC := Lib.hid (counts_c x x0 wr)
            rw [hd] at HC
            clear HS hd
            go_wp2_with (go_at_call 66; refine Rets.use HC.out ?_; rintro v1 w1 ⟨rfl, rfl⟩)
            go_ret3
            exact ⟨by rw [HE.out]; rfl, rfl⟩
          · by_cases hn0 : n = 0
            · subst hn0
              have HE := Lib.hid (show Chunk.sz m l 0 0 = (0, 0, 4) by rw [← HS.out, if_pos (.inr ⟨by omega, rfl⟩)])
              have HC := Lib.hid (counts_c x x0 wr)
              have hdb : (Chunk.counts x == 16) = false := by simpa using hd
              clear HS hd
              go_wp2_with (go_at_call 66; refine Rets.use HC.out ?_; rintro v1 w1 ⟨rfl, rfl⟩)
              go_ret3
              exact ⟨by rw [HE.out]; rfl, rfl⟩
            · have hnb : (n == 0) = false := by simpa using hn0
              have hdb : (Chunk.counts x == 16) = false := by simpa using hd
              have HC := Lib.hid (counts_c x x0 wr)
              have HS := Lib.hid (show (if m < 16 * n + Chunk.counts x then (0, 0, 5) else Chunk.sz m (l.drop (k + 1)) (16 * n + Chunk.counts x) (((k : Nat) : Int) + 1)) = Chunk.sz m l 0 0 by have := HS.out; rw [if_neg (by rintro (h | h); exact hd h; first | exact hn0 h.2 | exact absurd h.1 (by decide))] at this; exact this)
              clear hd
              generalize Chunk.counts x = d at *
              by_cases hbig : m < 16 * n + d
              · have HE := Lib.hid (show Chunk.sz m l 0 0 = (0, 0, 5) by rw [← HS.out, if_pos hbig])
                clear HS
                go_wp2_with (go_at_call 66; refine Rets.use HC.out ?_; rintro v1 w1 ⟨rfl, rfl⟩)
                go_ret3
                exact ⟨by rw [HE.out]; rfl, rfl⟩
              · have HS := Lib.hid (show Chunk.sz m (l.drop (k + 1)) (16 * n + d) (((k : Nat) : Int) + 1) = Chunk.sz m l 0 0 by have := HS.out; rw [if_neg hbig] at this; exact this)
                go_wp2_with (go_at_call 66; refine Rets.use HC.out ?_; rintro v1 w1 ⟨rfl, rfl⟩)
                go_roundw
                case rel => exact ⟨k + 1, 16 * n + d, by omega, by go_num, by go_num, by omega, by omega, by trivial, Lib.hid (by rw [← HS.out]; congr 1)⟩
                case measure => simp [intOf]; omega
    · obtain rfl : k = l.length := by omega
      rw [List.drop_length] at HS
      by_cases h0 : l.length = 0
      · have HE := Lib.hid (show Chunk.sz m l 0 0 = (0, 0, 3) by rw [← HS.out, Chunk.sz, if_pos (by omega)])
        clear HS
        go_wp2
        go_ret3
        exact ⟨by rw [HE.out]; rfl, rfl⟩
      · have HE := Lib.hid (show Chunk.sz m l 0 0 = (n, (l.length : Int) + 2, 3) by rw [← HS.out, Chunk.sz, if_neg (by omega)])
        have HT := Lib.hid (tail_end HR.out)
        clear HS
        go_wp2_with (go_at_call 61; go_loud (refine Rets.use (two_c _ [] HT.out) ?_); rintro v1 w1 ⟨rfl, rfl⟩)
        all_goals (go_ret3; exact ⟨by rw [HE.out]; rfl, rfl⟩)
end Go.Proofs.Ytibegbmehpggbaa
