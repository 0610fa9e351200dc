/-
  The document's Whole; ChunkReads.
-/
import Derived.Test.YtibegbmehpggbaaChunkF
namespace Go.Proofs.Ytibegbmehpggbaa
open Go.RowKit Go.Canon Go.Mem Go.Args
set_option linter.unusedVariables false
set_option linter.unusedSimpArgs false
theorem mid_at {w : World} {ok : Nat → Prop} {b o c : Nat} {l : List Int} (h : Rd w ok (.slice (some ⟨b, o, none⟩) l.length c) l.length (Disk.bytes8 l)) {j n : Nat} (hj : j + n ≤ l.length) (hn : 0 < n) : Rd w ok (.slice (some ⟨b, o + j, none⟩) n (c - j)) ((l.drop j).take n).length (Disk.bytes8 ((l.drop j).take n)) := by
  have h1 := tail_at h (k := j) (by omega)
  have hl : (l.drop j).length = l.length - j := List.length_drop ..
  rw [hl] at h1
  obtain ⟨A, c', e, h2, h3, h4⟩ := h1
  cases e
  have ht : ((l.drop j).take n).length = n := by rw [List.length_take]; omega
  refine ⟨_, _, by rw [ht], by rw [ht]; omega, fun e => (by cases e), ?_⟩
  rcases h4 with h4 | ⟨b', o', e1, e2, e3⟩
  · exfalso
    have := congrArg List.length h4
    rw [Disk.bytes8_len, hl] at this
    simp at this; omega
  · right
    refine ⟨b', o', e1, e2, fun i u hu => e3 i u ?_⟩
    unfold Disk.bytes8 at *
    rw [List.map_take, List.getElem?_take] at hu
    split at hu
    · exact hu
    · cases hu
theorem two_len8 {l : List Int} (h : Chunk.two l = 0) : 2 ≤ l.length := Chunk.two_len h
theorem Byte.drop {l : List Int} (h : Byte l) (k : Nat) : Byte (l.drop k) := fun x hx => h x (List.mem_of_mem_drop hx)
theorem two_nil {w : World} (A : Option Addr) (n c : Nat) (hn : n = 0) : Calls Try.prog 61 #[.slice A n c] w (Rets (Only (.int .i64 3) w)) := by
  subst hn
  go_enter Try.func61, Try.ntmps61
  go_wp2
  go_ret
  exact ⟨rfl, rfl⟩
set_option maxHeartbeats 6400000 in
set_option maxRecDepth 100000 in
theorem rwhole_c {ok : Nat → Prop} {w : World} (hok : ∀ j, ok j → j < w.heap.size) (v : Value) (l : List Int) (most : Int) (hr : Rd w ok v l.length (Disk.bytes8 l)) (hl : l.length ≤ 999999) (hB : Byte l) : Calls Try.prog 48 #[v, .int .i64 most] w (Rets (ThreeIs w (Chunk.whole l most))) := by
  by_cases hm : most < 0 ∨ 2048 < most
  · have HW := Lib.hid (show Chunk.whole l most = ([], 0, 2) by unfold Chunk.whole; rw [if_pos hm])
    by_cases hm0 : most < 0
    · clear hr hm hB
      go_enter Try.func48, Try.ntmps48
      go_wp2
      go_ret3
      rw [HW.out]
      exact ⟨Keeps.refl _ _, _, rfl, OwnRow.nil _ _ _ _⟩
    · have hm1 : 2048 < most := by omega
      clear hr hm hB
      go_enter Try.func48, Try.ntmps48
      go_wp2
      go_ret3
      rw [HW.out]
      exact ⟨Keeps.refl _ _, _, rfl, OwnRow.nil _ _ _ _⟩
  · have HW := Lib.hid (show Chunk.whole l most = Chunk.go ⟨most, 0, 0, []⟩ l 0 by unfold Chunk.whole; rw [if_neg hm])
    have m0 : 0 ≤ most := by omega
    have m1 : most ≤ 2048 := by omega
    obtain ⟨A, c, rfl, hc, _⟩ := hr.slice
    have HR := Lib.hid hr
    have HB := Lib.hid hB
    clear hr hm hB
    go_enter Try.func48, Try.ntmps48
    go_wp2
    go_loopw [7, 8] (fun bv i wr => ∃ (k : Nat) (body : List Int), k ≤ l.length ∧ i = .int .i64 k ∧ OwnRow wr (fun j => w.heap.size ≤ j) 5 1 bv body.length (Disk.bytes8 body) ∧ Keeps (fun _ => False) w wr ∧ (body.length : Int) ≤ most ∧ Hid (Chunk.go ⟨most, 0, 0, body⟩ (l.drop k) k = Chunk.whole l most)) (fun _ i _ => l.length - (intOf i).toNat)
    case atStart => exact ⟨0, [], Nat.zero_le _, rfl, OwnRow.nil _ _ _ _, Keeps.refl _ _, m0, Lib.hid HW.out.symm⟩
    case round =>
      obtain ⟨k, body, hk, rfl, hO, hK, hbm, HG⟩ := hrel
      have HO := Lib.hid hO
      have HK := Lib.hid hK
      have HR2 := Lib.hid (HR.out.kept hK (fun _ _ h => h))
      obtain ⟨Bv, cv, rfl, _⟩ := hO.slice
      clear hO hK
      rw [Chunk.go_round] at HG
      by_cases hlt : k < l.length
      · obtain ⟨b, o, c', e, _, _, _⟩ := HR2.out.at (by intro e; have := congrArg List.length e; rw [Disk.bytes8_len, List.length_nil] at this; omega)
        cases e
        have HT := Lib.hid (sized_c _ (l.drop k) (most - body.length) (tail_at HR2.out hlt) (by rw [List.length_drop]; omega) (HB.out.drop k) (by omega))
        have hin := fun h => Chunk.sz_in (most - body.length) (l.drop k) 0 0 (Int.le_refl 0) (Int.le_refl 0) (fun h => (h rfl).elim) h
        rw [List.length_drop] at hin
        generalize Chunk.sz (most - body.length) (l.drop k) 0 0 = s at *
        obtain ⟨n, kk, e⟩ := s
        by_cases he : e = 0
        · subst he
          obtain ⟨n0, n1, k0, k1⟩ := hin rfl
          simp only at n0 n1 k0 k1
          clear hin
          obtain ⟨n, rfl⟩ : ∃ q : Nat, n = q := ⟨n.toNat, by omega⟩
          obtain ⟨kk, rfl⟩ : ∃ q : Nat, kk = q := ⟨kk.toNat, by omega⟩
          obtain ⟨j, hj0⟩ : ∃ j : Nat, j = k + kk := ⟨_, rfl⟩
          have ej : (k : Int) + (kk : Int) = (j : Int) := by omega
          have hj : j ≤ l.length := by omega
          have hjk : k ≤ j := by omega
          have HG := Lib.hid (show Chunk.after most body n (l.drop j) (j : Int) = Chunk.whole l most by have := HG.out; rw [hj0]; simpa [List.drop_drop] using this)
          clear hj0
          by_cases hn : n = 0
          · subst hn
            have HG := Lib.hid (show (if Chunk.two (l.drop (j)) ≠ 0 then ([], 0, Chunk.two (l.drop (j))) else (body, (j : Int) + 2, 0)) = Chunk.whole l most by have := HG.out; simpa [Chunk.after] using this)
            by_cases hj2 : j < l.length
            · have HT2 := Lib.hid (two_c _ _ (tail_at HR2.out hj2))
              generalize Chunk.two (l.drop (j)) = t at *
              by_cases ht : t = 0
              · subst ht
                have HE := Lib.hid (show Chunk.whole l most = (body, (j : Int) + 2, 0) by rw [← HG.out]; simp)
                clear HG
                go_wp2_with (first
                  | (go_at_call 61; go_loud (refine Rets.use HT2.out ?_); rintro v1 w1 ⟨rfl, rfl⟩)
                  | (go_at_call 60; go_loud (refine Rets.use HT.out ?_); rintro v1 w1 ⟨rfl, rfl⟩))
                go_ret3
                rw [HE.out]
                exact ⟨HK.out, _, rfl, HO.out⟩
              · have HE := Lib.hid (show Chunk.whole l most = ([], 0, t) by rw [← HG.out]; simp [ht])
                have htb : (t != 0) = true := by simpa using ht
                clear HG ht
                go_wp2_with (first
                  | (go_at_call 61; go_loud (refine Rets.use HT2.out ?_); rintro v1 w1 ⟨rfl, rfl⟩)
                  | (go_at_call 60; go_loud (refine Rets.use HT.out ?_); rintro v1 w1 ⟨rfl, rfl⟩))
                go_ret3
                rw [HE.out]
                exact ⟨HK.out, _, rfl, OwnRow.nil _ _ _ _⟩
            · have hj3 : l.length ≤ j := by omega
              have HE := Lib.hid (show Chunk.whole l most = ([], 0, 3) by rw [← HG.out, List.drop_of_length_le hj3]; simp [Chunk.two])
              clear HG
              go_wp2_with (first
                | (go_at_call 61; go_loud (refine Rets.use (two_nil _ _ _ (by omega)) ?_); rintro v1 w1 ⟨rfl, rfl⟩)
                | (go_at_call 60; go_loud (refine Rets.use HT.out ?_); rintro v1 w1 ⟨rfl, rfl⟩))
              all_goals (go_ret3; rw [HE.out]; exact ⟨HK.out, _, rfl, OwnRow.nil _ _ _ _⟩)
          · have hn1 : 0 < n := by omega
            obtain ⟨q, hq0⟩ : ∃ q : Nat, q = j + n := ⟨_, rfl⟩
            have eq : (j : Int) + (n : Int) = (q : Int) := by omega
            have hq1 : j + n ≤ q := by omega
            have hq2 : q ≤ j + n := by omega
            have hnb : ((n : Int) == 0) = false := by simp; exact hn
            by_cases hs : l.length < q
            · have HE := Lib.hid (show Chunk.whole l most = ([], 0, 3) by rw [← HG.out]; unfold Chunk.after; rw [if_neg (by omega), if_pos (by rw [List.length_drop]; omega)])
              clear HG
              go_wp2_with (go_at_call 60; go_loud (refine Rets.use HT.out ?_); rintro v1 w1 ⟨rfl, rfl⟩)
              go_ret3
              rw [HE.out]
              exact ⟨HK.out, _, rfl, OwnRow.nil _ _ _ _⟩
            · have HG := Lib.hid (show (if Chunk.two (l.drop (q)) ≠ 0 then ([], 0, Chunk.two (l.drop (q))) else Chunk.go ⟨most, 0, 0, body ++ (l.drop (j)).take n⟩ (l.drop (q + 2)) ((q : Int) + 2)) = Chunk.whole l most by
                have := HG.out
                unfold Chunk.after at this
                rw [if_neg (by omega), if_neg (by rw [List.length_drop]; omega)] at this
                rw [hq0]
                simpa [List.drop_drop, Nat.add_assoc, Int.add_assoc] using this)
              clear hq0
              have HM := Lib.hid (mid_at HR2.out (j := j) (n := n) (by omega) hn1)
              have htl : ((l.drop (j)).take n).length = n := by rw [List.length_take, List.length_drop]; omega
              have HTl := Lib.hid htl
              have HMn := Lib.hid (show Rd wr ok (.slice (some ⟨b, o + j, none⟩) n (c - j)) n (Disk.bytes8 ((l.drop j).take n)) by have := HM.out; rwa [htl] at this)
              have eqn : q - j = n := by omega
              clear htl HM
              generalize (l.drop (j)).take n = piece at *
              by_cases hj2 : q < l.length
              · have HL := Lib.hid (@two_len8 (l.drop (q)))
                rw [List.length_drop] at HL
                have HT2 := Lib.hid (fun w3 (h : Keeps (fun j => (Value.slice Bv body.length cv).ownBlock = some j) wr w3) => two_c _ _ (tail_at (HR2.out.kept h (fun j hj h => by have := HO.out.2 j h; have := hok j hj; omega)) hj2))
                generalize Chunk.two (l.drop (q)) = t at *
                by_cases ht : t = 0
                · subst ht
                  have HE := Lib.hid (show Chunk.go ⟨most, 0, 0, body ++ piece⟩ (l.drop (q + 2)) ((q : Int) + 2) = Chunk.whole l most by rw [← HG.out]; simp)
                  have hl2 := HL.out rfl
                  clear HG
                  go_wp2_with (first
                    | (go_at_call 61; go_loud (refine Rets.use (HT2.out w3 hk3) ?_); rintro v1 w1 ⟨rfl, rfl⟩)
                    | ((with_reducible refine at_ 63 rfl ?_); go_must (refine step_append_rd (ok2 := ok) rfl _ _ _ rfl 5 _ 1 1 Try.underlying22 row_byte rfl (by decide) (.slice Bv body.length cv) body.length (Disk.bytes8 body) rfl (own_self HO.out) _ n (Disk.bytes8 piece) rfl HMn.out (by rw [Disk.bytes8_len, HTl.out, Nat.mul_one]) (Disk.bytes8_one piece) (by simp only [maxLen]; omega) (by omega) ?_); intro v3 w3 hO3 hk3; obtain ⟨A3, c3, rfl, _⟩ := hO3.slice; have HK3 : Keeps (fun _ => False) w w3 := HK.out.trans hk3 (fun j hj h => by have := HO.out.2 j h; omega); have hO3b : OwnRow w3 (fun j => w.heap.size ≤ j) 5 1 (.slice A3 (body.length + n) c3) (body.length + n) (Disk.bytes8 body ++ Disk.bytes8 piece) := hO3.mono (fun j _ h => by rcases h with h | h; exact HO.out.2 j h; exact Nat.le_trans HK.out.size h))
                    | (go_at_call 60; go_loud (refine Rets.use HT.out ?_); rintro v1 w1 ⟨rfl, rfl⟩))
                  go_roundw
                  case rel => exact ⟨q + 2, body ++ piece, by omega, by go_num, by rw [List.length_append, HTl.out, Disk.bytes8_append]; exact hO3b, HK3, by rw [List.length_append, HTl.out]; omega, Lib.hid (by rw [← HE.out]; congr 1)⟩
                  case measure => simp [intOf]; omega
                · have HE := Lib.hid (show Chunk.whole l most = ([], 0, t) by rw [← HG.out]; simp [ht])
                  have htb : (t != 0) = true := by simpa using ht
                  clear HG ht
                  go_wp2_with (first
                    | (go_at_call 61; go_loud (refine Rets.use (HT2.out w3 hk3) ?_); rintro v1 w1 ⟨rfl, rfl⟩)
                    | ((with_reducible refine at_ 63 rfl ?_); go_must (refine step_append_rd (ok2 := ok) rfl _ _ _ rfl 5 _ 1 1 Try.underlying22 row_byte rfl (by decide) (.slice Bv body.length cv) body.length (Disk.bytes8 body) rfl (own_self HO.out) _ n (Disk.bytes8 piece) rfl HMn.out (by rw [Disk.bytes8_len, HTl.out, Nat.mul_one]) (Disk.bytes8_one piece) (by simp only [maxLen]; omega) (by omega) ?_); intro v3 w3 hO3 hk3; obtain ⟨A3, c3, rfl, _⟩ := hO3.slice; have HK3 : Keeps (fun _ => False) w w3 := HK.out.trans hk3 (fun j hj h => by have := HO.out.2 j h; omega); have hO3b : OwnRow w3 (fun j => w.heap.size ≤ j) 5 1 (.slice A3 (body.length + n) c3) (body.length + n) (Disk.bytes8 body ++ Disk.bytes8 piece) := hO3.mono (fun j _ h => by rcases h with h | h; exact HO.out.2 j h; exact Nat.le_trans HK.out.size h))
                    | (go_at_call 60; go_loud (refine Rets.use HT.out ?_); rintro v1 w1 ⟨rfl, rfl⟩))
                  go_ret3
                  rw [HE.out]
                  exact ⟨HK3, _, rfl, OwnRow.nil _ _ _ _⟩
              · have hj3 : l.length ≤ q := by omega
                have HE := Lib.hid (show Chunk.whole l most = ([], 0, 3) by rw [← HG.out, List.drop_of_length_le hj3]; simp [Chunk.two])
                clear HG
                go_wp2_with (first
                  | (go_at_call 61; go_loud (refine Rets.use (two_nil _ _ _ (by omega)) ?_); rintro v1 w1 ⟨rfl, rfl⟩)
                  | ((with_reducible refine at_ 63 rfl ?_); go_must (refine step_append_rd (ok2 := ok) rfl _ _ _ rfl 5 _ 1 1 Try.underlying22 row_byte rfl (by decide) (.slice Bv body.length cv) body.length (Disk.bytes8 body) rfl (own_self HO.out) _ n (Disk.bytes8 piece) rfl HMn.out (by rw [Disk.bytes8_len, HTl.out, Nat.mul_one]) (Disk.bytes8_one piece) (by simp only [maxLen]; omega) (by omega) ?_); intro v3 w3 hO3 hk3; obtain ⟨A3, c3, rfl, _⟩ := hO3.slice; have HK3 : Keeps (fun _ => False) w w3 := HK.out.trans hk3 (fun j hj h => by have := HO.out.2 j h; omega); have hO3b : OwnRow w3 (fun j => w.heap.size ≤ j) 5 1 (.slice A3 (body.length + n) c3) (body.length + n) (Disk.bytes8 body ++ Disk.bytes8 piece) := hO3.mono (fun j _ h => by rcases h with h | h; exact HO.out.2 j h; exact Nat.le_trans HK.out.size h))
                  | (go_at_call 60; go_loud (refine Rets.use HT.out ?_); rintro v1 w1 ⟨rfl, rfl⟩))
                all_goals (go_ret3; rw [HE.out]; exact ⟨HK3, _, rfl, OwnRow.nil _ _ _ _⟩)
        · have HE := Lib.hid (show Chunk.whole l most = ([], 0, e) by rw [← HG.out]; simp [he])
          have heb : (e != 0) = true := by simpa using he
          clear HG he hin
          go_wp2_with (go_at_call 60; refine Rets.use HT.out ?_; rintro v1 w1 ⟨rfl, rfl⟩)
          go_ret3
          rw [HE.out]
          exact ⟨HK.out, _, rfl, OwnRow.nil _ _ _ _⟩
      · obtain rfl : k = l.length := by omega
        have HE := Lib.hid (show Chunk.whole l most = ([], 0, 3) by rw [← HG.out]; simp [Chunk.sz])
        have HT := Lib.hid (sized_c _ [] (most - body.length) (tail_end HR2.out) (by decide) (fun x hx => by cases hx) (by omega))
        clear HG
        go_wp2_with (go_at_call 60; refine Rets.use HT.out ?_; rintro v1 w1 ⟨rfl, rfl⟩)
        all_goals (go_ret3; rw [HE.out]; exact ⟨HK.out, _, rfl, OwnRow.nil _ _ _ _⟩)
end Go.Proofs.Ytibegbmehpggbaa
