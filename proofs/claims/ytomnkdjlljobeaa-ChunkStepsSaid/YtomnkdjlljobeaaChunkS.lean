/-
  The document's reader, byte by byte: Body, Put.
-/
import Derived.Test.YtomnkdjlljobeaaChunkP
namespace Go.Proofs.Ytomnkdjlljobeaa
open Go.RowKit Go.Canon Go.Mem Go.Args
set_option linter.unusedVariables false
set_option linter.unusedSimpArgs false
/-- The document's reader in memory. -/
def RefIs (w : World) (S : Nat → Prop) (x : Nat) (m : Int) (B : List Int) (en : Bool) : Prop := ∃ v, w.heap[x]? = some (.cells [Value.int .i64 m, v, .bool en].toArray 38 (0, 0)) ∧ S x ∧ OwnRow w (fun k => S k ∧ k ≠ x) 5 1 v B.length (Disk.bytes8 B)
theorem RefIs.kept {w w' : World} {S S' : Nat → Prop} {x : Nat} {m : Int} {B : List Int} {en : Bool} (h : RefIs w S x m B en) (hk : Keeps S' w w') (hn : ∀ k, S k → ¬ S' k) : RefIs w' S x m B en := by
  obtain ⟨v, h1, h2, h3⟩ := h
  exact ⟨v, hk.heap h1 (hn x h2), h2, h3.kept hk (fun k hk => hn k hk.1)⟩
theorem RefIs.mono {w : World} {S S' : Nat → Prop} {x : Nat} {m : Int} {B : List Int} {en : Bool} (h : RefIs w S x m B en) (hs : ∀ k, k < w.heap.size → S k → S' k) : RefIs w S' x m B en := by
  obtain ⟨v, h1, h2, h3⟩ := h
  exact ⟨v, h1, hs x (lt_of h1) h2, h3.mono (fun k hk h => ⟨hs k hk h.1, h.2⟩)⟩
theorem rd_zero {w : World} {ok : Nat → Prop} {A : Option Addr} {c : Nat} (h : A ≠ none) : Rd w ok (.slice A 0 c) 0 (Disk.bytes8 []) := ⟨A, c, rfl, Nat.zero_le _, fun e => (h e).elim, .inl rfl⟩
theorem bodyOf_stop {m : Int} {b l : List Int} (h : l = [] ∨ (Chunk.sz m l 0 0).2.2 ≠ 0 ∨ (Chunk.sz m l 0 0).1 = 0) : Chunk.bodyOf m b l = b := by rw [Chunk.bodyOf, dif_pos h]
set_option maxHeartbeats 6400000 in
set_option maxRecDepth 100000 in
theorem rbody_c {w : World} {S : Nat → Prop} {x : Nat} {m : Int} {B : List Int} {en : Bool} (h : RefIs w S x m B en) (hl : B.length ≤ 999) (hB : Byte B) (hm : m ≤ 2048) : Calls Try.prog 22 #[.pointer (some ⟨x, 0, none⟩)] w (Rets (NewRow 5 1 (Chunk.bodyOf m [] B).length (Disk.bytes8 (Chunk.bodyOf m [] B)) w)) := by
  obtain ⟨v, hb, hx, hO⟩ := h
  have HR := Lib.hid hO.rd.lt
  obtain ⟨A, c, rfl, hc, _, hz⟩ := hO.slice
  have c0 : w.cell? ⟨x, 0, none⟩ = some (.int .i64 m) := (cell_of_row w x 0 _ _ _ hb).trans rfl
  have c1 : w.cell? ⟨x, 1, none⟩ = some (.slice A B.length c) := (cell_of_row w x 1 _ _ _ hb).trans rfl
  have HB := Lib.hid hB
  have HN := Lib.hid (show Out w w (.slice none 0 0) [] from ⟨OwnRow.nil _ _ _ _, Keeps.refl _ _⟩)
  clear hb hO hB hz
  go_enter Try.func22, Try.ntmps22
  go_wp2
  go_loopw [3, 4] (fun bv av wr => ∃ (k : Nat) (body : List Int), av = .int .i64 k ∧ Out w wr bv body ∧ body.length ≤ k ∧ k ≤ 4000 ∧ Hid (Chunk.bodyOf m body (B.drop k) = Chunk.bodyOf m [] B)) (fun _ av _ => B.length - (intOf av).toNat)
  case atStart => exact ⟨0, [], rfl, HN.out, Nat.zero_le _, by omega, Lib.hid rfl⟩
  case round =>
    obtain ⟨k, body, rfl, hO, hbk, hk4, HE⟩ := hrel
    have HO := Lib.hid hO
    have c0 := hO.2.cell c0 (fun h => h)
    have c1 := hO.2.cell c1 (fun h => h)
    have KD : Keeps (fun _ => False) wr wr.drew := (Keeps.refl _ wr).drew
    have HR2 := Lib.hid (HR.out.kept (hO.2.trans KD (fun _ _ h => h)) (fun _ _ h => h))
    clear hO
    by_cases hlt : k < B.length
    · obtain ⟨b, o, c', e, _, _, _⟩ := HR2.out.at (by intro e; have := congrArg List.length e; rw [Disk.bytes8_len, List.length_nil] at this; omega)
      cases e
      have HS := Lib.hid (sized_c _ (B.drop k) m (tail_at HR2.out hlt) (by rw [List.length_drop]; omega) (HB.out.drop k) hm)
      have hin := fun h => Chunk.sz_in m (B.drop k) 0 0 (Int.le_refl 0) (Int.le_refl 0) (fun h => (h rfl).elim) h
      rw [List.length_drop] at hin
      by_cases hst : (Chunk.sz m (B.drop k) 0 0).2.2 ≠ 0 ∨ (Chunk.sz m (B.drop k) 0 0).1 = 0
      · have HE := Lib.hid (show Chunk.bodyOf m [] B = body by rw [← HE.out]; exact bodyOf_stop (.inr hst))
        generalize Chunk.sz m (B.drop k) 0 0 = s at *
        obtain ⟨n, kk, e⟩ := s
        simp only at hst
        clear hin
        by_cases he : e = 0
        · subst he
          obtain rfl : n = 0 := by rcases hst with h | h; exact (h rfl).elim; exact h
          clear hst
          go_wp2
          refine Canon.row [0, 1, 2, 4, 6, 7, 8, 3, 5, 9, 10, 11, 12, 13, 14, 15, 16, 17] (by kernel_rfl) (by kernel_rfl) (by repeat (first | (with_reducible exact Safe.body) | (with_reducible apply Safe.then) | (with_reducible apply Safe.inBlock) | (dsimp +zetaDelta only))) ?_
          simp only [Canon.pick, Canon.wpPlan, List.getElem?_toArray, List.getElem?_cons_zero, List.getElem?_cons_succ]
          have c0 := KD.cell c0 (fun h => h)
          have c1 := KD.cell c1 (fun h => h)
          go_wp2_with (go_at_call 35; go_loud (refine Rets.use HS.out ?_); rintro v1 w1 ⟨rfl, rfl⟩)
          refine ⟨by rfl, trivial, ?_⟩
          go_wp2
          go_ret
          rw [HE.out]
          exact HO.out.kept KD
        · have heb : (e != 0) = true := by simpa using he
          clear hst he
          go_wp2
          refine Canon.row [0, 1, 2, 4, 6, 7, 8, 3, 5, 9, 10, 11, 12, 13, 14, 15, 16, 17] (by kernel_rfl) (by kernel_rfl) (by repeat (first | (with_reducible exact Safe.body) | (with_reducible apply Safe.then) | (with_reducible apply Safe.inBlock) | (dsimp +zetaDelta only))) ?_
          simp only [Canon.pick, Canon.wpPlan, List.getElem?_toArray, List.getElem?_cons_zero, List.getElem?_cons_succ]
          have c0 := KD.cell c0 (fun h => h)
          have c1 := KD.cell c1 (fun h => h)
          go_wp2_with (go_at_call 35; go_loud (refine Rets.use HS.out ?_); rintro v1 w1 ⟨rfl, rfl⟩)
          refine ⟨by rfl, trivial, ?_⟩
          go_wp2
          go_ret
          rw [HE.out]
          exact HO.out.kept KD
      · have hs2 : (Chunk.sz m (B.drop k) 0 0).2.2 = 0 := Decidable.byContradiction fun h => hst (.inl h)
        have hs3 : ¬ (Chunk.sz m (B.drop k) 0 0).1 = 0 := fun h => hst (.inr h)
        obtain ⟨n0, n1, k0, k1⟩ := hin hs2
        have HE := Lib.hid (show Chunk.bodyOf m (body ++ ((B.drop k).drop (Chunk.sz m (B.drop k) 0 0).2.1.toNat).take (Chunk.sz m (B.drop k) 0 0).1.toNat) ((B.drop k).drop ((Chunk.sz m (B.drop k) 0 0).2.1.toNat + (Chunk.sz m (B.drop k) 0 0).1.toNat + 2)) = Chunk.bodyOf m [] B by
          rw [← HE.out]
          conv => rhs; rw [Chunk.bodyOf]
          rw [dif_neg (by rintro (h | h); · rw [List.drop_eq_nil_iff] at h; omega
                          · exact hst h)])
        clear hst
        generalize Chunk.sz m (B.drop k) 0 0 = s at *
        obtain ⟨n, kk, e⟩ := s
        simp only at hs2 hs3 n0 n1 k0 k1
        subst hs2
        obtain ⟨n, rfl⟩ : ∃ q : Nat, n = q := ⟨n.toNat, by omega⟩
        obtain ⟨kk, rfl⟩ : ∃ q : Nat, kk = q := ⟨kk.toNat, by omega⟩
        clear hin
        have hnb : ((n : Int) == 0) = false := by simpa using hs3
        have hn1 : 0 < n := by omega
        obtain ⟨j, hj0⟩ : ∃ j : Nat, j = k + kk := ⟨_, rfl⟩
        obtain ⟨q, hq0⟩ : ∃ q : Nat, q = j + n := ⟨_, rfl⟩
        have ej : (k : Int) + (kk : Int) = (j : Int) := by omega
        have eq : (j : Int) + (n : Int) = (q : Int) := by omega
        have hjk : k ≤ j := by omega
        have hjl : j ≤ B.length := by omega
        have hjq : j < q := by omega
        have hq4 : q + 2 ≤ 4000 := by omega
        have HE := Lib.hid (show Chunk.bodyOf m (body ++ (B.drop j).take n) (B.drop (q + 2)) = Chunk.bodyOf m [] B by
          have h1 := HE.out
          simp only [Int.toNat_natCast, List.drop_drop] at h1
          rw [hq0, hj0, show k + kk + n + 2 = k + (kk + n + 2) by omega]
          exact h1)
        by_cases hqe : B.length < q
        · by_cases hje : j < B.length
          · obtain ⟨nn, hnn⟩ : ∃ nn : Nat, nn = B.length - j := ⟨_, rfl⟩
            have enn : B.length - j = nn := by omega
            have hnn1 : nn ≤ n := by omega
            have htl : (B.drop j).length = nn := by rw [List.length_drop]; omega
            have HTl := Lib.hid htl
            have HMn := Lib.hid (show Rd wr.drew (fun k => (S k ∧ k ≠ x) ∧ k < w.heap.size) (.slice (some ⟨b, o + j, none⟩) nn (c - j)) nn (Disk.bytes8 (B.drop j)) by have := tail_at HR2.out hje; rwa [htl, ← hnn] at this)
            have HE := Lib.hid (show Chunk.bodyOf m (body ++ B.drop j) (B.drop (q + 2)) = Chunk.bodyOf m [] B by have h1 := HE.out; rwa [List.take_of_length_le (by omega)] at h1)
            generalize B.drop j = piece at *
            clear htl hj0 hq0 n0 n1 k0 k1 hs3 hnn
            go_wp2
            refine Canon.row [0, 1, 2, 4, 6, 7, 8, 3, 5, 9, 10, 11, 12, 13, 14, 15, 16, 17] (by kernel_rfl) (by kernel_rfl) (by repeat (first | (with_reducible exact Safe.body) | (with_reducible apply Safe.then) | (with_reducible apply Safe.inBlock) | (dsimp +zetaDelta only))) ?_
            simp only [Canon.pick, Canon.wpPlan, List.getElem?_toArray, List.getElem?_cons_zero, List.getElem?_cons_succ]
            have c0 := KD.cell c0 (fun h => h)
            have c1 := KD.cell c1 (fun h => h)
            go_wp2_with (go_at_call 35; go_loud (refine Rets.use HS.out ?_); rintro v1 w1 ⟨rfl, rfl⟩)
            refine ⟨by rfl, trivial, ?_⟩
            go_wp2_with ((with_reducible refine at_ 64 rfl ?_); go_must (refine out_rd rfl _ _ rfl _ body rfl (HO.out.kept KD) _ nn piece rfl HMn.out HTl.out (by rw [HTl.out]; omega) ?_); intro v8 w8 hO8 hk8)
            go_roundw
            case rel => exact ⟨q + 2, _, by go_num, hO8, by rw [List.length_append, HTl.out]; omega, hq4, HE⟩
            case measure => simp [intOf]; omega
          · obtain rfl : j = B.length := by omega
            have HE := Lib.hid (show Chunk.bodyOf m (body ++ []) (B.drop (q + 2)) = Chunk.bodyOf m [] B by have h1 := HE.out; rwa [List.drop_length, List.take_nil] at h1)
            have HXe := Lib.hid (show ∀ w' : World, Rd w' (fun _ => True) (.slice (if c = B.length then some ⟨b, o, none⟩ else some ⟨b, o + B.length, none⟩) 0 (c - B.length)) 0 (Disk.bytes8 []) from fun _ => rd_zero (by split <;> simp))
            clear hj0 hq0 n0 n1 k0 k1 hs3
            go_wp2
            refine Canon.row [0, 1, 2, 4, 6, 7, 8, 3, 5, 9, 10, 11, 12, 13, 14, 15, 16, 17] (by kernel_rfl) (by kernel_rfl) (by repeat (first | (with_reducible exact Safe.body) | (with_reducible apply Safe.then) | (with_reducible apply Safe.inBlock) | (dsimp +zetaDelta only))) ?_
            simp only [Canon.pick, Canon.wpPlan, List.getElem?_toArray, List.getElem?_cons_zero, List.getElem?_cons_succ]
            have c0 := KD.cell c0 (fun h => h)
            have c1 := KD.cell c1 (fun h => h)
            go_wp2_with (go_at_call 35; go_loud (refine Rets.use HS.out ?_); rintro v1 w1 ⟨rfl, rfl⟩)
            refine ⟨by rfl, trivial, ?_⟩
            go_wp2_with ((with_reducible refine at_ 64 rfl ?_); go_must (refine out_rd rfl _ _ rfl _ body rfl (HO.out.kept KD) _ 0 [] rfl (HXe.out wr.drew) rfl (by simp; omega) ?_); intro v8 w8 hO8 hk8)
            all_goals
              go_roundw
              case rel => exact ⟨q + 2, _, by go_num, hO8, by simp; omega, hq4, HE⟩
              case measure => simp [intOf]; omega
        · have enn : q - j = n := by omega
          have HM := Lib.hid (mid_at HR2.out (j := j) (n := n) (by omega) hn1)
          have htl : ((B.drop j).take n).length = n := by rw [List.length_take, List.length_drop]; omega
          have HTl := Lib.hid htl
          have HMn := Lib.hid (show Rd wr.drew (fun k => (S k ∧ k ≠ x) ∧ k < w.heap.size) (.slice (some ⟨b, o + j, none⟩) n (c - j)) n (Disk.bytes8 ((B.drop j).take n)) by have := HM.out; rwa [htl] at this)
          generalize (B.drop j).take n = piece at *
          clear htl HM hj0 hq0 n0 n1 k0 k1 hs3
          go_wp2
          refine Canon.row [0, 1, 2, 4, 6, 7, 8, 3, 5, 9, 10, 11, 12, 13, 14, 15, 16, 17] (by kernel_rfl) (by kernel_rfl) (by repeat (first | (with_reducible exact Safe.body) | (with_reducible apply Safe.then) | (with_reducible apply Safe.inBlock) | (dsimp +zetaDelta only))) ?_
          simp only [Canon.pick, Canon.wpPlan, List.getElem?_toArray, List.getElem?_cons_zero, List.getElem?_cons_succ]
          have c0 := KD.cell c0 (fun h => h)
          have c1 := KD.cell c1 (fun h => h)
          go_wp2_with (go_at_call 35; go_loud (refine Rets.use HS.out ?_); rintro v1 w1 ⟨rfl, rfl⟩)
          refine ⟨by rfl, trivial, ?_⟩
          go_wp2_with ((with_reducible refine at_ 64 rfl ?_); go_must (refine out_rd rfl _ _ rfl _ body rfl (HO.out.kept KD) _ n piece rfl HMn.out HTl.out (by rw [HTl.out]; omega) ?_); intro v8 w8 hO8 hk8)
          go_roundw
          case rel => exact ⟨q + 2, _, by go_num, hO8, by rw [List.length_append, HTl.out]; omega, hq4, HE⟩
          case measure => simp [intOf]; omega
    · have HE := Lib.hid (show Chunk.bodyOf m [] B = body by rw [← HE.out, List.drop_of_length_le (show B.length ≤ k by omega)]; exact bodyOf_stop (.inl rfl))
      go_wp2
      go_ret
      rw [HE.out]
      exact HO.out
end Go.Proofs.Ytomnkdjlljobeaa
