/-
  ChunkPrints: the document's Print, the walk.
-/
import Derived.Test.YtomnkdjlljobeaaLRoom
namespace Go.Proofs.Ytomnkdjlljobeaa
open Go.RowKit Go.Canon Go.Mem Go.Args
set_option linter.unusedVariables false
set_option linter.unusedSimpArgs false
set_option maxHeartbeats 3200000 in
set_option maxRecDepth 100000 in
theorem rhex_c (n : Nat) (hn : n ≤ 1000000) (w : World) : Calls Try.prog 40 #[.int .i64 n] w (Rets (Only (.string (bstr (Chunk.hex n))) w)) := by
  go_enter Try.func40, Try.ntmps40
  go_wp2
  go_loopw [0, 3] (fun nv sv wr => ∃ (m : Nat) (s : List Int), nv = .int .i64 m ∧ sv = .string (bstr s) ∧ s.length + m ≤ n + 1 ∧ wr = w ∧ Hid ((if m = 0 ∧ s ≠ [] then s else Chunk.hex m ++ s) = Chunk.hex n)) (fun nv sv _ => 2 * (intOf nv).toNat + (match sv with | .string b => if b.size = 0 then 1 else 0 | _ => 0))
  case atStart => exact ⟨n, [], rfl, rfl, by simp, rfl, Lib.hid (by simp)⟩
  case round =>
    obtain ⟨m, s, rfl, rfl, hsm, rfl, HE⟩ := hrel
    obtain ⟨q, hq⟩ : ∃ q : Nat, q = m / 16 := ⟨_, rfl⟩
    obtain ⟨d, hd⟩ : ∃ d : Nat, d = m % 16 := ⟨_, rfl⟩
    have hd16 : d < 16 := by omega
    have hqm : 16 * q ≤ m := by omega
    have HC := Lib.hid (hex_cut ⟨d, hd16⟩)
    have HS := Lib.hid (bstr_app [Chunk.hexc d] s)
    have hss : (bstr s).size ≤ 1000001 := by rw [bstr_size]; omega
    have q1 : ((m : Int)).tdiv 16 = (q : Int) := by rw [Int.tdiv_eq_ediv_of_nonneg (by omega)]; omega
    have q2 : ((m : Int)) / 16 = (q : Int) := by omega
    have d1 : ((m : Int)).tmod 16 = (d : Int) := by rw [Int.tmod_eq_emod_of_nonneg (by omega)]; omega
    have d2 : ((m : Int)) % 16 = (d : Int) := by omega
    by_cases hm0 : 0 < m
    · have HN := Lib.hid (show (if q = 0 ∧ Chunk.hexc d :: s ≠ [] then Chunk.hexc d :: s else Chunk.hex q ++ (Chunk.hexc d :: s)) = Chunk.hex n by
        have h1 := HE.out
        rw [if_neg (by omega)] at h1
        rw [← h1]
        by_cases h16 : m < 16
        · have : q = 0 := by omega
          have hdm : d = m := by omega
          rw [if_pos ⟨this, by simp⟩, Chunk.hex_one h16, hdm]; rfl
        · rw [if_neg (by omega), Chunk.hex_more h16, ← hq, ← hd]; simp)
      clear hq hd HE
      go_wp2
      go_roundw
      case rel => exact ⟨q, Chunk.hexc d :: s, by go_num, by show _ = Value.string (bstr ([Chunk.hexc d] ++ s)); rw [← HS.out, ← HC.out]; rfl, by simp; omega, by trivial, HN⟩
      case measure => simp only [intOf, Int.toNat_natCast]; split <;> split <;> (try split) <;> omega
    · obtain rfl : m = 0 := by omega
      by_cases hs : s = []
      · subst hs
        have HN := Lib.hid (show (if q = 0 ∧ Chunk.hexc d :: [] ≠ [] then Chunk.hexc d :: [] else Chunk.hex q ++ (Chunk.hexc d :: [])) = Chunk.hex n by
          have h1 := HE.out
          rw [if_neg (by simp), Chunk.hex_one (by decide), List.append_nil] at h1
          have hd0 : d = 0 := by omega
          have hq0 : q = 0 := by omega
          rw [← h1, if_pos ⟨hq0, by simp⟩, hd0])
        have hq0 : q ≤ 0 := by omega
        have hse : (bstr []).toList.isEmpty = true := by rw [ByteArray.toList_eq]; rfl
        have q3 : ((0 : Int)).tdiv 16 = (q : Int) := by have : q = 0 := by omega
                                                        rw [this]; rfl
        clear hq hd HE
        have HN := Lib.hid (show (if q = 0 ∧ Chunk.hexc 0 :: [] ≠ [] then Chunk.hexc 0 :: [] else Chunk.hex q ++ (Chunk.hexc 0 :: [])) = Chunk.hex n by have h1 := HN.out; have hd0 : d = 0 := (by simpa using d2.symm); rwa [hd0] at h1)
        have HC0 := Lib.hid (show hexS.extract 0 1 ++ bstr [] = bstr [Chunk.hexc 0] by decide)
        go_wp2
        refine ⟨⟨q, [Chunk.hexc 0], rfl, by rw [← HC0.out]; rfl, by simp; omega, by trivial, HN⟩, ?_⟩
        have hz : ((⟨#[48, 49, 50, 51, 52, 53, 54, 55, 56, 57, 97, 98, 99, 100, 101, 102]⟩ : ByteArray).extract 0 1 ++ bstr []).size = 1 := by decide
        have hz2 : (bstr []).size = 0 := rfl
        simp only [intOf, hz, hz2]
        simp
        omega
      · have HN := Lib.hid (show s = Chunk.hex n by rw [← HE.out, if_pos ⟨rfl, hs⟩])
        have hse : (bstr s).toList.isEmpty = false := by
          rw [ByteArray.toList_eq]
          cases s with
          | nil => exact (hs rfl).elim
          | cons x l => rfl
        clear hq hd HE
        go_wp2
        go_ret
        exact ⟨by rw [← HN.out]; rfl, rfl⟩
theorem lit_crlf {w : World} {b B : Nat} {t : TypeId} (hb : w.heap[b]? = some (.cells (([13, 10].map (Value.int .u8)).flatMap fun v => v.cells.toList).toArray t (0, 0))) (hB : B ≤ b) : Rd w (fun k => B ≤ k) (.slice (some ⟨b, 0, none⟩) 2 2) 2 (Disk.bytes8 [13, 10]) := lits8 hb hB rfl
theorem lit_end {w : World} {b B : Nat} {t : TypeId} (hb : w.heap[b]? = some (.cells (([48, 13, 10, 13, 10].map (Value.int .u8)).flatMap fun v => v.cells.toList).toArray t (0, 0))) (hB : B ≤ b) : Rd w (fun k => B ≤ k) (.slice (some ⟨b, 0, none⟩) 5 5) 5 (Disk.bytes8 [48, 13, 10, 13, 10]) := lits8 hb hB rfl
theorem ones (l : List Int) : ∀ v ∈ l.map (Value.int .u8), v.cells.size = 1 := by
  intro v hv
  obtain ⟨x, _, rfl⟩ := List.mem_map.1 hv
  rfl
set_option maxHeartbeats 6400000 in
set_option maxRecDepth 100000 in
theorem rprint_c {ok : Nat → Prop} {w : World} (v : Value) (l : List Int) (size : Int) (hr : Rd w ok v l.length (Disk.bytes8 l)) (hok : ∀ j, ok j → j < w.heap.size) : Calls Try.prog 24 #[v, .int .i64 size] w (Rets (TwoIs w (printed l size))) := by
  have hN : Out w w (.slice none 0 0) [] := ⟨OwnRow.nil _ _ _ _, Keeps.refl _ _⟩
  obtain ⟨A, c, rfl, hc, hz⟩ := hr.slice
  by_cases hs : size < 1
  · have HP := Lib.hid (show printed l size = ([], 2) by unfold printed; rw [if_pos (.inl hs)])
    clear hr hz
    go_enter Try.func24, Try.ntmps24
    go_wp2
    go_ret2
    rw [HP.out]
    exact ⟨_, rfl, hN⟩
  · by_cases hs2 : 2048 < size
    · have HP := Lib.hid (show printed l size = ([], 2) by unfold printed; rw [if_pos (.inr hs2)])
      clear hr hz
      go_enter Try.func24, Try.ntmps24
      go_wp2
      go_ret2
      rw [HP.out]
      exact ⟨_, rfl, hN⟩
    · by_cases hl : 2048 < l.length
      · have HP := Lib.hid (show printed l size = ([], 5) by unfold printed; rw [if_neg (by omega), if_pos (by omega)])
        clear hr hz
        go_enter Try.func24, Try.ntmps24
        go_wp2
        go_ret2
        rw [HP.out]
        exact ⟨_, rfl, hN⟩
      · obtain ⟨sz, rfl⟩ : ∃ q : Nat, size = q := ⟨size.toNat, by omega⟩
        have HP := Lib.hid (show printed l sz = (Chunk.pr sz l, 0) by unfold printed; rw [if_neg (by omega), if_neg (by omega)]; simp)
        have HR := Lib.hid hr
        have HN := Lib.hid hN
        have hs0 : 0 < sz := by omega
        clear hr hz hN
        go_enter Try.func24, Try.ntmps24
        go_wp2
        go_loopw [6, 7] (fun ov av wr => ∃ (k : Nat) (out : List Int), av = .int .i64 k ∧ k ≤ l.length + sz ∧ Out w wr ov out ∧ out.length ≤ 2060 * k ∧ Hid (out ++ Chunk.pr sz (l.drop k) = Chunk.pr sz l)) (fun _ av _ => l.length - (intOf av).toNat)
        case atStart => exact ⟨0, [], rfl, Nat.zero_le _, HN.out, Nat.zero_le _, Lib.hid rfl⟩
        case round =>
          obtain ⟨k, out, rfl, hk, hO, ho, HE⟩ := hrel
          have HO := Lib.hid hO
          by_cases hlt : k < l.length
          · obtain ⟨b, o, c', e, _, _, _⟩ := HR.out.at (by intro e; have := congrArg List.length e; rw [Disk.bytes8_len, List.length_nil] at this; omega)
            cases e
            obtain ⟨q, hq⟩ : ∃ q : Nat, q = k + sz := ⟨_, rfl⟩
            have eq1 : (k : Int) + (sz : Int) = (q : Int) := by omega
            obtain ⟨n, hn⟩ : ∃ n, n = min sz (l.drop k).length := ⟨_, rfl⟩
            have hdl : (l.drop k).length = l.length - k := List.length_drop ..
            have hn0 : 0 < n := by omega
            have hn1 : k + n ≤ l.length := by omega
            have HE := Lib.hid (show (((out ++ Chunk.hex n) ++ [13, 10]) ++ (l.drop k).take n) ++ [13, 10] ++ Chunk.pr sz (l.drop (k + n)) = Chunk.pr sz l by
              have := HE.out
              rw [Chunk.pr_cons hs0 (by omega), ← hn, List.drop_drop] at this
              simpa using this)
            have HH := Lib.hid (fun w => rhex_c n (by omega) w)
            have HB := Lib.hid (hex_byte n)
            have hx := hex_len n
            have HM := Lib.hid (mid_at HR.out (j := k) (n := n) hn1 hn0)
            have htl : ((l.drop k).take n).length = n := by rw [List.length_take]; omega
            have HTl := Lib.hid htl
            have HMn := Lib.hid (show Rd w ok (.slice (some ⟨b, o + k, none⟩) n (c - k)) n (Disk.bytes8 ((l.drop k).take n)) by have := HM.out; rwa [htl] at this)
            by_cases hqe : l.length < q
            · have en : (l.length : Int) - (k : Int) = (n : Int) := by omega
              have enn : l.length - k = n := by omega
              have HE := Lib.hid (show (((out ++ Chunk.hex n) ++ [13, 10]) ++ (l.drop k).take n) ++ [13, 10] ++ Chunk.pr sz (l.drop q) = Chunk.pr sz l by rw [← HE.out, List.drop_of_length_le (show l.length ≤ q by omega), List.drop_of_length_le (show l.length ≤ k + n by omega)])
              have hkq : k < q := by omega
              have hqs : q ≤ l.length + sz := by omega
              have hnq : k + n ≤ q := by omega
              generalize Chunk.hex n = hx0 at *
              generalize (l.drop k).take n = piece at *
              clear hO hq hn hdl htl HM
              go_wp2_with (first
                | ((with_reducible refine at_ 51 rfl ?_); go_must (refine out_rd rfl _ _ rfl _ _ rfl (hO6.kept hk7) _ 2 [13, 10] rfl (lit_crlf (B := 0) hb7 (Nat.zero_le _)) rfl (by simp only [List.length_append, List.length_cons, List.length_nil, HTl.out]; omega) ?_); intro v8 w8 hO8 hk8)
                | ((with_reducible refine at_ 50 rfl ?_); go_must (refine step_lit rfl 22 _ 2 rfl ([13, 10].map (Value.int .u8)) rfl rfl (by decide) 5 _ 1 Try.underlying22 row2_byte (by decide) (by decide) (ones _) ?_); intro w7 hb7 hk7 hs7)
                | ((with_reducible refine at_ 48 rfl ?_); go_must (refine out_rd rfl _ _ rfl _ _ rfl hO5 _ n piece rfl (HMn.out.kept hO5.2 (fun _ _ h => h)) HTl.out (by simp only [List.length_append, List.length_cons, List.length_nil, HTl.out]; omega) ?_); intro v6 w6 hO6 hk6)
                | ((with_reducible refine at_ 42 rfl ?_); go_must (refine out_rd rfl _ _ rfl _ _ rfl (hO3.kept hk4) _ 2 [13, 10] rfl (lit_crlf (B := 0) hb4 (Nat.zero_le _)) rfl (by simp only [List.length_append, List.length_cons, List.length_nil]; omega) ?_); intro v5 w5 hO5 hk5)
                | ((with_reducible refine at_ 41 rfl ?_); go_must (refine step_lit rfl 22 _ 2 rfl ([13, 10].map (Value.int .u8)) rfl rfl (by decide) 5 _ 1 Try.underlying22 row2_byte (by decide) (by decide) (ones _) ?_); intro w4 hb4 hk4 hs4)
                | ((with_reducible refine at_ 39 rfl ?_); go_must (refine out_str rfl _ _ rfl _ out rfl HO.out hx0 rfl HB.out (by omega) ?_); intro v3 w3 hO3 hk3)
                | (go_at_call 40; go_loud (refine Rets.use (HH.out wr) ?_); rintro v2 w2 ⟨rfl, rfl⟩))
              go_roundw
              case rel => exact ⟨q, _, by go_num, hqs, hO8, by simp only [List.length_append, List.length_cons, List.length_nil, HTl.out]; omega, HE⟩
              case measure => simp [intOf]; omega
            · have en : (q : Int) - (k : Int) = (n : Int) := by omega
              have enn : q - k = n := by omega
              have HE := Lib.hid (show (((out ++ Chunk.hex n) ++ [13, 10]) ++ (l.drop k).take n) ++ [13, 10] ++ Chunk.pr sz (l.drop q) = Chunk.pr sz l by rw [← HE.out, show q = k + n by omega])
              have hkq : k < q := by omega
              have hqs : q ≤ l.length + sz := by omega
              have hnq : k + n ≤ q := by omega
              generalize Chunk.hex n = hx0 at *
              generalize (l.drop k).take n = piece at *
              clear hO hq hn hdl htl HM
              go_wp2_with (first
                | ((with_reducible refine at_ 51 rfl ?_); go_must (refine out_rd rfl _ _ rfl _ _ rfl (hO6.kept hk7) _ 2 [13, 10] rfl (lit_crlf (B := 0) hb7 (Nat.zero_le _)) rfl (by simp only [List.length_append, List.length_cons, List.length_nil, HTl.out]; omega) ?_); intro v8 w8 hO8 hk8)
                | ((with_reducible refine at_ 50 rfl ?_); go_must (refine step_lit rfl 22 _ 2 rfl ([13, 10].map (Value.int .u8)) rfl rfl (by decide) 5 _ 1 Try.underlying22 row2_byte (by decide) (by decide) (ones _) ?_); intro w7 hb7 hk7 hs7)
                | ((with_reducible refine at_ 48 rfl ?_); go_must (refine out_rd rfl _ _ rfl _ _ rfl hO5 _ n piece rfl (HMn.out.kept hO5.2 (fun _ _ h => h)) HTl.out (by simp only [List.length_append, List.length_cons, List.length_nil, HTl.out]; omega) ?_); intro v6 w6 hO6 hk6)
                | ((with_reducible refine at_ 42 rfl ?_); go_must (refine out_rd rfl _ _ rfl _ _ rfl (hO3.kept hk4) _ 2 [13, 10] rfl (lit_crlf (B := 0) hb4 (Nat.zero_le _)) rfl (by simp only [List.length_append, List.length_cons, List.length_nil]; omega) ?_); intro v5 w5 hO5 hk5)
                | ((with_reducible refine at_ 41 rfl ?_); go_must (refine step_lit rfl 22 _ 2 rfl ([13, 10].map (Value.int .u8)) rfl rfl (by decide) 5 _ 1 Try.underlying22 row2_byte (by decide) (by decide) (ones _) ?_); intro w4 hb4 hk4 hs4)
                | ((with_reducible refine at_ 39 rfl ?_); go_must (refine out_str rfl _ _ rfl _ out rfl HO.out hx0 rfl HB.out (by omega) ?_); intro v3 w3 hO3 hk3)
                | (go_at_call 40; go_loud (refine Rets.use (HH.out wr) ?_); rintro v2 w2 ⟨rfl, rfl⟩))
              go_roundw
              case rel => exact ⟨q, _, by go_num, hqs, hO8, by simp only [List.length_append, List.length_cons, List.length_nil, HTl.out]; omega, HE⟩
              case measure => simp [intOf]; omega
          · have HE := Lib.hid (show out ++ [48, 13, 10, 13, 10] = Chunk.pr sz l by rw [← HE.out, List.drop_of_length_le (show l.length ≤ k by omega), Chunk.pr_nil])
            clear hO
            go_wp2_with (first
              | ((with_reducible refine at_ 54 rfl ?_); go_must (refine out_rd rfl _ _ rfl _ out rfl (HO.out.kept hk6) _ 5 [48, 13, 10, 13, 10] rfl (lit_end (B := 0) hb6 (Nat.zero_le _)) rfl (by simp; omega) ?_); intro v7 w7 hO7 hk7)
              | ((with_reducible refine at_ 53 rfl ?_); go_must (refine step_lit rfl 22 _ 5 rfl ([48, 13, 10, 13, 10].map (Value.int .u8)) rfl rfl (by decide) 5 _ 1 Try.underlying22 row2_byte (by decide) (by decide) (ones _) ?_); intro w6 hb6 hk6 hs6))
            go_ret2
            rw [HP.out]
            rw [HE.out] at hO7
            exact ⟨_, rfl, hO7⟩
end Go.Proofs.Ytomnkdjlljobeaa
