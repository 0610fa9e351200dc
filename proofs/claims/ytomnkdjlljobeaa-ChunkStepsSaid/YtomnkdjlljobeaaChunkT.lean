/-
  The document's reader: Put.
-/
import Derived.Test.YtomnkdjlljobeaaChunkS
namespace Go.Proofs.Ytomnkdjlljobeaa
open Go.RowKit Go.Canon Go.Mem Go.Args
set_option linter.unusedVariables false
set_option linter.unusedSimpArgs false
theorem info_bool : (Try.prog.info? 4).map (·.size) = some 1 := by kernel_rfl
def rput (m : Int) (B : List Int) (en : Bool) (b : Int) : (Bool × Int) × (List Int × Bool) :=
  if en = true then ((false, 20), (B, true))
  else if (Chunk.whole (B ++ [b]) m).2.2 = 4 ∨ (Chunk.whole (B ++ [b]) m).2.2 = 5 then ((false, (Chunk.whole (B ++ [b]) m).2.2), (B, true))
  else ((decide ((Chunk.whole (B ++ [b]) m).2.2 = 0), 0), (B ++ [b], decide ((Chunk.whole (B ++ [b]) m).2.2 = 0)))
def RStep (w : World) (S : Nat → Prop) (x : Nat) (m : Int) (r : (Bool × Int) × (List Int × Bool)) : Value → World → Prop := fun v w' => v = .tuple #[.bool r.1.1, .int .i64 r.1.2] ∧ RefIs w' (fun k => S k ∨ w.heap.size ≤ k) x m r.2.1 r.2.2 ∧ Keeps S w w'
set_option maxHeartbeats 6400000 in
set_option maxRecDepth 100000 in
theorem rput_c {w : World} {S : Nat → Prop} {x : Nat} {m : Int} {B : List Int} {en : Bool} (h : RefIs w S x m B en) (hl : B.length ≤ 900) (hB : Byte B) (b : Int) (hb0 : 0 ≤ b ∧ b ≤ 255) : Calls Try.prog 20 #[.pointer (some ⟨x, 0, none⟩), .int .u8 b] w (Rets (RStep w S x m (rput m B en b))) := by
  have HI := Lib.hid h
  obtain ⟨v, hb, hx, hO⟩ := h
  have c0 : w.cell? ⟨x, 0, none⟩ = some (.int .i64 m) := (cell_of_row w x 0 _ _ _ hb).trans rfl
  have c1 : w.cell? ⟨x, 1, none⟩ = some v := (cell_of_row w x 1 _ _ _ hb).trans rfl
  have c2 : w.cell? ⟨x, 2, none⟩ = some (.bool en) := (cell_of_row w x 2 _ _ _ hb).trans rfl
  have HB := Lib.hid hb
  have HO := Lib.hid hO
  cases en with
  | true =>
    clear hb hO
    go_enter Try.func20, Try.ntmps20
    go_wp2
    go_ret2
    exact ⟨rfl, HI.out.mono (fun k _ h => .inl h), Keeps.refl _ _⟩
  | false =>
    have hBb : Byte (B ++ [b]) := fun y hy => (List.mem_append.1 hy).elim (hB y) (fun h => by rw [List.mem_singleton] at h; subst h; exact hb0)
    have HW := Lib.hid (fun (ok : Nat → Prop) (w : World) (h0 : ∀ j, ok j → j < w.heap.size) (v : Value) (h : Rd w ok v (B ++ [b]).length (Disk.bytes8 (B ++ [b]))) => rwhole_c h0 v (B ++ [b]) m h (by rw [List.length_append]; simp; omega) hBb)
    have HP := Lib.hid (show rput m B false b = if (Chunk.whole (B ++ [b]) m).2.2 = 4 ∨ (Chunk.whole (B ++ [b]) m).2.2 = 5 then ((false, (Chunk.whole (B ++ [b]) m).2.2), (B, true)) else ((decide ((Chunk.whole (B ++ [b]) m).2.2 = 0), 0), (B ++ [b], decide ((Chunk.whole (B ++ [b]) m).2.2 = 0))) by simp [rput])
    generalize Chunk.whole (B ++ [b]) m = t at *
    have KD : Keeps (fun _ => False) w w.drew := (Keeps.refl _ w).drew
    have HRd := Lib.hid (hO.rd.lt.kept KD (fun _ _ h => h))
    have hl2 : B.length ≤ 140737488355328 := by omega
    clear hb hO hBb hB
    obtain ⟨A, c, rfl, _⟩ := HO.out.slice
    obtain ⟨t1, t2, e⟩ := t
    by_cases e4 : e = 4
    · subst e4
      have HQ := Lib.hid (show rput m B false b = ((false, 4), (B, true)) by rw [HP.out]; simp)
      go_enter Try.func20, Try.ntmps20
      go_wp2
      refine Canon.region [4, 6, 7] [(⟨x, 1, none⟩, .slice A B.length c), (⟨x, 0, none⟩, .int .i64 m)] [(3, 0), (11, 1)] (.hold [0, 1, 2, 5, 8, 9, 10, 3, 11] (.fork 4 (.loud 6 (.loud 7 (.seg [12, 13, 14, 15, 16, 17, 18, 19] .stop))) 6 (.loud 4 (.loud 7 (.seg [12, 13, 14, 15, 16, 17, 18, 19] .stop))))) (by kernel_rfl) (by kernel_rfl) (by repeat (first | (with_reducible exact Safe.body) | (with_reducible apply Safe.then) | (with_reducible apply Safe.inBlock) | (dsimp +zetaDelta only))) ?_
      simp only [Canon.pick, Canon.wpPlan, List.getElem?_toArray, List.getElem?_cons_zero, List.getElem?_cons_succ]
      have c0 := KD.cell c0 (fun h => h)
      have c1 := KD.cell c1 (fun h => h)
      have HB := Lib.hid (KD.heap HB.out (fun h => h))
      have HO := Lib.hid (HO.out.kept KD (fun _ _ h => h))
      refine ⟨fun p hp => by simp at hp; rcases hp with rfl | rfl; exact c1; exact c0, ?_⟩
      go_wp2
      refine ⟨?_, ?_⟩
      · go_wp2_with (go_at_call 13; refine Rets.use (copy_c _ B HRd.out hl2) ?_; rintro v1 w1 ⟨hr1, hk1⟩)
        refine ⟨fun p hp => by simp at hp; rcases hp with rfl | rfl; exact hk1.cell c1 (fun h => h); exact hk1.cell c0 (fun h => h), ?_⟩
        go_wp2_with ((with_reducible refine at_ 20 rfl ?_); go_must (refine step_lit rfl 22 _ 1 rfl [.int .u8 b] rfl rfl (by decide) 5 _ 1 Try.underlying22 row2_byte (by decide) (by decide) (by intro v hv; rw [List.mem_singleton] at hv; subst hv; rfl) ?_); intro w2 hb2 hk2 hs2)
        have hk12 := hk1.trans hk2 (fun _ _ h => h)
        have hO1 := hr1.kept hk2 (fun _ _ h => h)
        have hl8 := lit8 (B := w.drew.heap.size) hb2 hk1.size
        refine ⟨fun p hp => by simp at hp; rcases hp with rfl | rfl; exact hk12.cell c1 (fun h => h); exact hk12.cell c0 (fun h => h), ?_⟩
        go_wp2_with ((with_reducible refine at_ 21 rfl ?_); go_must (refine step_append_rd (ok2 := fun k => w.drew.heap.size ≤ k) rfl _ _ _ rfl 5 _ 1 1 Try.underlying22 row_byte rfl (by decide) v1 B.length (Disk.bytes8 B) rfl hO1 _ 1 (Disk.bytes8 [b]) rfl hl8 rfl (Disk.bytes8_one [b]) (by simp only [maxLen]; omega) (by omega) ?_); intro v3 w3 hO3 hk3)
        have hk13 := hk12.trans hk3 (fun k hk h => by have := hO1.2 k h; omega)
        refine ⟨fun p hp => by simp at hp; rcases hp with rfl | rfl; exact hk13.cell c1 (fun h => h); exact hk13.cell c0 (fun h => h), ?_⟩
        have hR3 : Rd w3 (fun j => j < w3.heap.size) v3 (B ++ [b]).length (Disk.bytes8 (B ++ [b])) := by rw [List.length_append, Disk.bytes8_append]; exact hO3.rd.lt.mono (fun k h => h.2)
        go_wp2_with (go_at_call 15; refine Rets.use (HW.out _ w3 (fun j h => h) v3 hR3) ?_; rintro v4 w4 ⟨hk4, u4, rfl, hO4⟩)
        refine ⟨by rfl, ⟨fun _ => rfl, fun _ => rfl, trivial⟩, ?_⟩
        have hk14 := hk13.trans hk4 (fun _ _ h => h)
        have hB4 := hk14.heap HB.out (fun h => h)
        have hO4b := HO.out.kept hk14 (fun _ _ h => h)
        have c1' := hk14.cell c1 (fun h => h)
        go_wp2_with ((with_reducible refine at_store 4 (.tmp 38) (.const (.bool true)) rfl ?_); go_must (refine step_store1 rfl _ _ _ rfl x 2 (.bool true) _ _ rfl rfl rfl hB4 (by simp) info_bool ?_); intro w5 hb5 hk5 hs5)
        go_ret2
        rw [HQ.out]
        exact ⟨rfl, ⟨_, hb5, .inl hx, (hO4b.kept hk5 (fun k hk e => hk.2 e)).mono (fun k _ h => ⟨.inl h.1, h.2⟩)⟩, ((KD.trans hk14 (fun _ _ h => h)).mono (fun _ _ h => h.elim)).trans hk5 (fun k _ e => by subst e; exact hx)⟩
      · go_wp2_with ((with_reducible refine at_ 20 rfl ?_); go_must (refine step_lit rfl 22 _ 1 rfl [.int .u8 b] rfl rfl (by decide) 5 _ 1 Try.underlying22 row2_byte (by decide) (by decide) (by intro v hv; rw [List.mem_singleton] at hv; subst hv; rfl) ?_); intro w1 hb1 hk1 hs1)
        refine ⟨fun p hp => by simp at hp; rcases hp with rfl | rfl; exact hk1.cell c1 (fun h => h); exact hk1.cell c0 (fun h => h), ?_⟩
        go_wp2_with (go_at_call 13; refine Rets.use (copy_c _ B (HRd.out.kept hk1 (fun _ _ h => h)) hl2) ?_; rintro v1 w2 ⟨hr1, hk2⟩)
        have hk12 := hk1.trans hk2 (fun _ _ h => h)
        have hO1 := hr1.mono (fun k _ h => Nat.le_trans hk1.size h)
        have hl8 := (lit8 (B := w.drew.heap.size) hb1 (Nat.le_refl _)).kept hk2 (fun _ _ h => h)
        refine ⟨fun p hp => by simp at hp; rcases hp with rfl | rfl; exact hk12.cell c1 (fun h => h); exact hk12.cell c0 (fun h => h), ?_⟩
        go_wp2_with ((with_reducible refine at_ 21 rfl ?_); go_must (refine step_append_rd (ok2 := fun k => w.drew.heap.size ≤ k) rfl _ _ _ rfl 5 _ 1 1 Try.underlying22 row_byte rfl (by decide) v1 B.length (Disk.bytes8 B) rfl hO1 _ 1 (Disk.bytes8 [b]) rfl hl8 rfl (Disk.bytes8_one [b]) (by simp only [maxLen]; omega) (by omega) ?_); intro v3 w3 hO3 hk3)
        have hk13 := hk12.trans hk3 (fun k hk h => by have := hO1.2 k h; omega)
        refine ⟨fun p hp => by simp at hp; rcases hp with rfl | rfl; exact hk13.cell c1 (fun h => h); exact hk13.cell c0 (fun h => h), ?_⟩
        have hR3 : Rd w3 (fun j => j < w3.heap.size) v3 (B ++ [b]).length (Disk.bytes8 (B ++ [b])) := by rw [List.length_append, Disk.bytes8_append]; exact hO3.rd.lt.mono (fun k h => h.2)
        go_wp2_with (go_at_call 15; refine Rets.use (HW.out _ w3 (fun j h => h) v3 hR3) ?_; rintro v4 w4 ⟨hk4, u4, rfl, hO4⟩)
        refine ⟨by rfl, ⟨fun _ => rfl, fun _ => rfl, trivial⟩, ?_⟩
        have hk14 := hk13.trans hk4 (fun _ _ h => h)
        have hB4 := hk14.heap HB.out (fun h => h)
        have hO4b := HO.out.kept hk14 (fun _ _ h => h)
        have c1' := hk14.cell c1 (fun h => h)
        go_wp2_with ((with_reducible refine at_store 4 (.tmp 38) (.const (.bool true)) rfl ?_); go_must (refine step_store1 rfl _ _ _ rfl x 2 (.bool true) _ _ rfl rfl rfl hB4 (by simp) info_bool ?_); intro w5 hb5 hk5 hs5)
        go_ret2
        rw [HQ.out]
        exact ⟨rfl, ⟨_, hb5, .inl hx, (hO4b.kept hk5 (fun k hk e => hk.2 e)).mono (fun k _ h => ⟨.inl h.1, h.2⟩)⟩, ((KD.trans hk14 (fun _ _ h => h)).mono (fun _ _ h => h.elim)).trans hk5 (fun k _ e => by subst e; exact hx)⟩
    · by_cases e5 : e = 5
      · subst e5
        have HQ := Lib.hid (show rput m B false b = ((false, 5), (B, true)) by rw [HP.out]; simp)
        go_enter Try.func20, Try.ntmps20
        go_wp2
        refine Canon.region [4, 6, 7] [(⟨x, 1, none⟩, .slice A B.length c), (⟨x, 0, none⟩, .int .i64 m)] [(3, 0), (11, 1)] (.hold [0, 1, 2, 5, 8, 9, 10, 3, 11] (.fork 4 (.loud 6 (.loud 7 (.seg [12, 13, 14, 15, 16, 17, 18, 19] .stop))) 6 (.loud 4 (.loud 7 (.seg [12, 13, 14, 15, 16, 17, 18, 19] .stop))))) (by kernel_rfl) (by kernel_rfl) (by repeat (first | (with_reducible exact Safe.body) | (with_reducible apply Safe.then) | (with_reducible apply Safe.inBlock) | (dsimp +zetaDelta only))) ?_
        simp only [Canon.pick, Canon.wpPlan, List.getElem?_toArray, List.getElem?_cons_zero, List.getElem?_cons_succ]
        have c0 := KD.cell c0 (fun h => h)
        have c1 := KD.cell c1 (fun h => h)
        have HB := Lib.hid (KD.heap HB.out (fun h => h))
        have HO := Lib.hid (HO.out.kept KD (fun _ _ h => h))
        refine ⟨fun p hp => by simp at hp; rcases hp with rfl | rfl; exact c1; exact c0, ?_⟩
        go_wp2
        refine ⟨?_, ?_⟩
        · go_wp2_with (go_at_call 13; refine Rets.use (copy_c _ B HRd.out hl2) ?_; rintro v1 w1 ⟨hr1, hk1⟩)
          refine ⟨fun p hp => by simp at hp; rcases hp with rfl | rfl; exact hk1.cell c1 (fun h => h); exact hk1.cell c0 (fun h => h), ?_⟩
          go_wp2_with ((with_reducible refine at_ 20 rfl ?_); go_must (refine step_lit rfl 22 _ 1 rfl [.int .u8 b] rfl rfl (by decide) 5 _ 1 Try.underlying22 row2_byte (by decide) (by decide) (by intro v hv; rw [List.mem_singleton] at hv; subst hv; rfl) ?_); intro w2 hb2 hk2 hs2)
          have hk12 := hk1.trans hk2 (fun _ _ h => h)
          have hO1 := hr1.kept hk2 (fun _ _ h => h)
          have hl8 := lit8 (B := w.drew.heap.size) hb2 hk1.size
          refine ⟨fun p hp => by simp at hp; rcases hp with rfl | rfl; exact hk12.cell c1 (fun h => h); exact hk12.cell c0 (fun h => h), ?_⟩
          go_wp2_with ((with_reducible refine at_ 21 rfl ?_); go_must (refine step_append_rd (ok2 := fun k => w.drew.heap.size ≤ k) rfl _ _ _ rfl 5 _ 1 1 Try.underlying22 row_byte rfl (by decide) v1 B.length (Disk.bytes8 B) rfl hO1 _ 1 (Disk.bytes8 [b]) rfl hl8 rfl (Disk.bytes8_one [b]) (by simp only [maxLen]; omega) (by omega) ?_); intro v3 w3 hO3 hk3)
          have hk13 := hk12.trans hk3 (fun k hk h => by have := hO1.2 k h; omega)
          refine ⟨fun p hp => by simp at hp; rcases hp with rfl | rfl; exact hk13.cell c1 (fun h => h); exact hk13.cell c0 (fun h => h), ?_⟩
          have hR3 : Rd w3 (fun j => j < w3.heap.size) v3 (B ++ [b]).length (Disk.bytes8 (B ++ [b])) := by rw [List.length_append, Disk.bytes8_append]; exact hO3.rd.lt.mono (fun k h => h.2)
          go_wp2_with (go_at_call 15; refine Rets.use (HW.out _ w3 (fun j h => h) v3 hR3) ?_; rintro v4 w4 ⟨hk4, u4, rfl, hO4⟩)
          refine ⟨by rfl, ⟨fun _ => rfl, fun _ => rfl, trivial⟩, ?_⟩
          have hk14 := hk13.trans hk4 (fun _ _ h => h)
          have hB4 := hk14.heap HB.out (fun h => h)
          have hO4b := HO.out.kept hk14 (fun _ _ h => h)
          have c1' := hk14.cell c1 (fun h => h)
          go_wp2_with ((with_reducible refine at_store 4 (.tmp 38) (.const (.bool true)) rfl ?_); go_must (refine step_store1 rfl _ _ _ rfl x 2 (.bool true) _ _ rfl rfl rfl hB4 (by simp) info_bool ?_); intro w5 hb5 hk5 hs5)
          go_ret2
          rw [HQ.out]
          exact ⟨rfl, ⟨_, hb5, .inl hx, (hO4b.kept hk5 (fun k hk e => hk.2 e)).mono (fun k _ h => ⟨.inl h.1, h.2⟩)⟩, ((KD.trans hk14 (fun _ _ h => h)).mono (fun _ _ h => h.elim)).trans hk5 (fun k _ e => by subst e; exact hx)⟩
        · go_wp2_with ((with_reducible refine at_ 20 rfl ?_); go_must (refine step_lit rfl 22 _ 1 rfl [.int .u8 b] rfl rfl (by decide) 5 _ 1 Try.underlying22 row2_byte (by decide) (by decide) (by intro v hv; rw [List.mem_singleton] at hv; subst hv; rfl) ?_); intro w1 hb1 hk1 hs1)
          refine ⟨fun p hp => by simp at hp; rcases hp with rfl | rfl; exact hk1.cell c1 (fun h => h); exact hk1.cell c0 (fun h => h), ?_⟩
          go_wp2_with (go_at_call 13; refine Rets.use (copy_c _ B (HRd.out.kept hk1 (fun _ _ h => h)) hl2) ?_; rintro v1 w2 ⟨hr1, hk2⟩)
          have hk12 := hk1.trans hk2 (fun _ _ h => h)
          have hO1 := hr1.mono (fun k _ h => Nat.le_trans hk1.size h)
          have hl8 := (lit8 (B := w.drew.heap.size) hb1 (Nat.le_refl _)).kept hk2 (fun _ _ h => h)
          refine ⟨fun p hp => by simp at hp; rcases hp with rfl | rfl; exact hk12.cell c1 (fun h => h); exact hk12.cell c0 (fun h => h), ?_⟩
          go_wp2_with ((with_reducible refine at_ 21 rfl ?_); go_must (refine step_append_rd (ok2 := fun k => w.drew.heap.size ≤ k) rfl _ _ _ rfl 5 _ 1 1 Try.underlying22 row_byte rfl (by decide) v1 B.length (Disk.bytes8 B) rfl hO1 _ 1 (Disk.bytes8 [b]) rfl hl8 rfl (Disk.bytes8_one [b]) (by simp only [maxLen]; omega) (by omega) ?_); intro v3 w3 hO3 hk3)
          have hk13 := hk12.trans hk3 (fun k hk h => by have := hO1.2 k h; omega)
          refine ⟨fun p hp => by simp at hp; rcases hp with rfl | rfl; exact hk13.cell c1 (fun h => h); exact hk13.cell c0 (fun h => h), ?_⟩
          have hR3 : Rd w3 (fun j => j < w3.heap.size) v3 (B ++ [b]).length (Disk.bytes8 (B ++ [b])) := by rw [List.length_append, Disk.bytes8_append]; exact hO3.rd.lt.mono (fun k h => h.2)
          go_wp2_with (go_at_call 15; refine Rets.use (HW.out _ w3 (fun j h => h) v3 hR3) ?_; rintro v4 w4 ⟨hk4, u4, rfl, hO4⟩)
          refine ⟨by rfl, ⟨fun _ => rfl, fun _ => rfl, trivial⟩, ?_⟩
          have hk14 := hk13.trans hk4 (fun _ _ h => h)
          have hB4 := hk14.heap HB.out (fun h => h)
          have hO4b := HO.out.kept hk14 (fun _ _ h => h)
          have c1' := hk14.cell c1 (fun h => h)
          go_wp2_with ((with_reducible refine at_store 4 (.tmp 38) (.const (.bool true)) rfl ?_); go_must (refine step_store1 rfl _ _ _ rfl x 2 (.bool true) _ _ rfl rfl rfl hB4 (by simp) info_bool ?_); intro w5 hb5 hk5 hs5)
          go_ret2
          rw [HQ.out]
          exact ⟨rfl, ⟨_, hb5, .inl hx, (hO4b.kept hk5 (fun k hk e => hk.2 e)).mono (fun k _ h => ⟨.inl h.1, h.2⟩)⟩, ((KD.trans hk14 (fun _ _ h => h)).mono (fun _ _ h => h.elim)).trans hk5 (fun k _ e => by subst e; exact hx)⟩
      · by_cases e0 : e = 0
        · subst e0
          have HQ := Lib.hid (show rput m B false b = ((true, 0), (B ++ [b], true)) by rw [HP.out]; simp)
          clear e4 e5
          go_enter Try.func20, Try.ntmps20
          go_wp2
          refine Canon.region [4, 6, 7] [(⟨x, 1, none⟩, .slice A B.length c), (⟨x, 0, none⟩, .int .i64 m)] [(3, 0), (11, 1)] (.hold [0, 1, 2, 5, 8, 9, 10, 3, 11] (.fork 4 (.loud 6 (.loud 7 (.seg [12, 13, 14, 15, 16, 17, 18, 19] .stop))) 6 (.loud 4 (.loud 7 (.seg [12, 13, 14, 15, 16, 17, 18, 19] .stop))))) (by kernel_rfl) (by kernel_rfl) (by repeat (first | (with_reducible exact Safe.body) | (with_reducible apply Safe.then) | (with_reducible apply Safe.inBlock) | (dsimp +zetaDelta only))) ?_
          simp only [Canon.pick, Canon.wpPlan, List.getElem?_toArray, List.getElem?_cons_zero, List.getElem?_cons_succ]
          have c0 := KD.cell c0 (fun h => h)
          have c1 := KD.cell c1 (fun h => h)
          have HB := Lib.hid (KD.heap HB.out (fun h => h))
          have HO := Lib.hid (HO.out.kept KD (fun _ _ h => h))
          refine ⟨fun p hp => by simp at hp; rcases hp with rfl | rfl; exact c1; exact c0, ?_⟩
          go_wp2
          refine ⟨?_, ?_⟩
          · go_wp2_with (go_at_call 13; refine Rets.use (copy_c _ B HRd.out hl2) ?_; rintro v1 w1 ⟨hr1, hk1⟩)
            refine ⟨fun p hp => by simp at hp; rcases hp with rfl | rfl; exact hk1.cell c1 (fun h => h); exact hk1.cell c0 (fun h => h), ?_⟩
            go_wp2_with ((with_reducible refine at_ 20 rfl ?_); go_must (refine step_lit rfl 22 _ 1 rfl [.int .u8 b] rfl rfl (by decide) 5 _ 1 Try.underlying22 row2_byte (by decide) (by decide) (by intro v hv; rw [List.mem_singleton] at hv; subst hv; rfl) ?_); intro w2 hb2 hk2 hs2)
            have hk12 := hk1.trans hk2 (fun _ _ h => h)
            have hO1 := hr1.kept hk2 (fun _ _ h => h)
            have hl8 := lit8 (B := w.drew.heap.size) hb2 hk1.size
            refine ⟨fun p hp => by simp at hp; rcases hp with rfl | rfl; exact hk12.cell c1 (fun h => h); exact hk12.cell c0 (fun h => h), ?_⟩
            go_wp2_with ((with_reducible refine at_ 21 rfl ?_); go_must (refine step_append_rd (ok2 := fun k => w.drew.heap.size ≤ k) rfl _ _ _ rfl 5 _ 1 1 Try.underlying22 row_byte rfl (by decide) v1 B.length (Disk.bytes8 B) rfl hO1 _ 1 (Disk.bytes8 [b]) rfl hl8 rfl (Disk.bytes8_one [b]) (by simp only [maxLen]; omega) (by omega) ?_); intro v3 w3 hO3 hk3)
            have hk13 := hk12.trans hk3 (fun k hk h => by have := hO1.2 k h; omega)
            refine ⟨fun p hp => by simp at hp; rcases hp with rfl | rfl; exact hk13.cell c1 (fun h => h); exact hk13.cell c0 (fun h => h), ?_⟩
            have hR3 : Rd w3 (fun j => j < w3.heap.size) v3 (B ++ [b]).length (Disk.bytes8 (B ++ [b])) := by rw [List.length_append, Disk.bytes8_append]; exact hO3.rd.lt.mono (fun k h => h.2)
            go_wp2_with (go_at_call 15; refine Rets.use (HW.out _ w3 (fun j h => h) v3 hR3) ?_; rintro v4 w4 ⟨hk4, u4, rfl, hO4⟩)
            refine ⟨by rfl, ⟨fun _ => rfl, fun _ => rfl, trivial⟩, ?_⟩
            have hk14 := hk13.trans hk4 (fun _ _ h => h)
            have hB4 := hk14.heap HB.out (fun h => h)
            have hO4b := HO.out.kept hk14 (fun _ _ h => h)
            have c1' := hk14.cell c1 (fun h => h)
            have xw : x < w4.heap.size := lt_of hB4
            have hk04 := KD.trans hk14 (fun _ _ h => h)
            go_wp2_with (first
              | ((with_reducible refine at_store 4 (.tmp 54) (.tmp 52) rfl ?_); go_must (refine step_store1 rfl _ _ _ rfl x 2 (.bool true) _ _ rfl rfl rfl hb7 (by simp) info_bool ?_); intro w8 hb8 hk8 hs8)
              | ((with_reducible refine at_store 22 (.tmp 49) (.tmp 47) rfl ?_); go_must (refine step_store1 rfl _ _ _ rfl x 1 (.slice A6 (B.length + 1) c6) _ _ rfl rfl rfl hb6 (by simp) info_bytes12 ?_); intro w7 hb7 hk7 hs7)
              | ((with_reducible refine at_ 47 rfl ?_); go_must (refine step_append_rd (ok2 := fun k => w4.heap.size ≤ k) rfl _ _ _ rfl 5 _ 1 1 Try.underlying22 row_byte rfl (by decide) (.slice A B.length c) B.length (Disk.bytes8 B) rfl (own_self (hO4b.kept hk5 (fun _ _ h => h))) _ 1 (Disk.bytes8 [b]) rfl (lit8 hb5 (Nat.le_refl _)) rfl (Disk.bytes8_one [b]) (by simp only [maxLen]; omega) (by omega) ?_); intro v6 w6 hO6 hk6; obtain ⟨A6, c6, rfl, _⟩ := hO6.slice; have hb6 := hk6.heap (hk5.heap hB4 (fun h => h)) (fun h => (hO4b.2 x h).2 rfl); have hk46 : Keeps S w4 w6 := (hk5.mono (fun _ _ h => h.elim)).trans hk6 (fun k _ h => (hO4b.2 k h).1); have hO6b : OwnRow w6 (fun k => (S k ∨ w.heap.size ≤ k) ∧ k ≠ x) 5 1 (.slice A6 (B.length + 1) c6) (B.length + 1) (Disk.bytes8 B ++ Disk.bytes8 [b]) := hO6.mono (fun k _ h => by rcases h with h | h; exact ⟨.inl (hO4b.2 k h).1, (hO4b.2 k h).2⟩; exact ⟨.inr (by have := hk04.size; have := hk5.size; omega), by have := hk5.size; omega⟩))
              | ((with_reducible refine at_ 46 rfl ?_); go_must (refine step_lit rfl 22 _ 1 rfl [.int .u8 b] rfl rfl (by decide) 5 _ 1 Try.underlying22 row2_byte (by decide) (by decide) (by intro v hv; rw [List.mem_singleton] at hv; subst hv; rfl) ?_); intro w5 hb5 hk5 hs5))
            go_ret2
            rw [HQ.out]
            have hk : Keeps (· = x) w6 w8 := hk7.trans hk8 (fun _ _ h => h)
            exact ⟨rfl, ⟨_, hb8, .inl hx, by rw [List.length_append, Disk.bytes8_append]; exact hO6b.kept hk (fun k hk e => hk.2 e)⟩, ((hk04.mono (fun _ _ h => h.elim)).trans hk46 (fun _ _ h => h)).trans hk (fun k _ e => by subst e; exact hx)⟩
          · go_wp2_with ((with_reducible refine at_ 20 rfl ?_); go_must (refine step_lit rfl 22 _ 1 rfl [.int .u8 b] rfl rfl (by decide) 5 _ 1 Try.underlying22 row2_byte (by decide) (by decide) (by intro v hv; rw [List.mem_singleton] at hv; subst hv; rfl) ?_); intro w1 hb1 hk1 hs1)
            refine ⟨fun p hp => by simp at hp; rcases hp with rfl | rfl; exact hk1.cell c1 (fun h => h); exact hk1.cell c0 (fun h => h), ?_⟩
            go_wp2_with (go_at_call 13; refine Rets.use (copy_c _ B (HRd.out.kept hk1 (fun _ _ h => h)) hl2) ?_; rintro v1 w2 ⟨hr1, hk2⟩)
            have hk12 := hk1.trans hk2 (fun _ _ h => h)
            have hO1 := hr1.mono (fun k _ h => Nat.le_trans hk1.size h)
            have hl8 := (lit8 (B := w.drew.heap.size) hb1 (Nat.le_refl _)).kept hk2 (fun _ _ h => h)
            refine ⟨fun p hp => by simp at hp; rcases hp with rfl | rfl; exact hk12.cell c1 (fun h => h); exact hk12.cell c0 (fun h => h), ?_⟩
            go_wp2_with ((with_reducible refine at_ 21 rfl ?_); go_must (refine step_append_rd (ok2 := fun k => w.drew.heap.size ≤ k) rfl _ _ _ rfl 5 _ 1 1 Try.underlying22 row_byte rfl (by decide) v1 B.length (Disk.bytes8 B) rfl hO1 _ 1 (Disk.bytes8 [b]) rfl hl8 rfl (Disk.bytes8_one [b]) (by simp only [maxLen]; omega) (by omega) ?_); intro v3 w3 hO3 hk3)
            have hk13 := hk12.trans hk3 (fun k hk h => by have := hO1.2 k h; omega)
            refine ⟨fun p hp => by simp at hp; rcases hp with rfl | rfl; exact hk13.cell c1 (fun h => h); exact hk13.cell c0 (fun h => h), ?_⟩
            have hR3 : Rd w3 (fun j => j < w3.heap.size) v3 (B ++ [b]).length (Disk.bytes8 (B ++ [b])) := by rw [List.length_append, Disk.bytes8_append]; exact hO3.rd.lt.mono (fun k h => h.2)
            go_wp2_with (go_at_call 15; refine Rets.use (HW.out _ w3 (fun j h => h) v3 hR3) ?_; rintro v4 w4 ⟨hk4, u4, rfl, hO4⟩)
            refine ⟨by rfl, ⟨fun _ => rfl, fun _ => rfl, trivial⟩, ?_⟩
            have hk14 := hk13.trans hk4 (fun _ _ h => h)
            have hB4 := hk14.heap HB.out (fun h => h)
            have hO4b := HO.out.kept hk14 (fun _ _ h => h)
            have c1' := hk14.cell c1 (fun h => h)
            have xw : x < w4.heap.size := lt_of hB4
            have hk04 := KD.trans hk14 (fun _ _ h => h)
            go_wp2_with (first
              | ((with_reducible refine at_store 4 (.tmp 54) (.tmp 52) rfl ?_); go_must (refine step_store1 rfl _ _ _ rfl x 2 (.bool true) _ _ rfl rfl rfl hb7 (by simp) info_bool ?_); intro w8 hb8 hk8 hs8)
              | ((with_reducible refine at_store 22 (.tmp 49) (.tmp 47) rfl ?_); go_must (refine step_store1 rfl _ _ _ rfl x 1 (.slice A6 (B.length + 1) c6) _ _ rfl rfl rfl hb6 (by simp) info_bytes12 ?_); intro w7 hb7 hk7 hs7)
              | ((with_reducible refine at_ 47 rfl ?_); go_must (refine step_append_rd (ok2 := fun k => w4.heap.size ≤ k) rfl _ _ _ rfl 5 _ 1 1 Try.underlying22 row_byte rfl (by decide) (.slice A B.length c) B.length (Disk.bytes8 B) rfl (own_self (hO4b.kept hk5 (fun _ _ h => h))) _ 1 (Disk.bytes8 [b]) rfl (lit8 hb5 (Nat.le_refl _)) rfl (Disk.bytes8_one [b]) (by simp only [maxLen]; omega) (by omega) ?_); intro v6 w6 hO6 hk6; obtain ⟨A6, c6, rfl, _⟩ := hO6.slice; have hb6 := hk6.heap (hk5.heap hB4 (fun h => h)) (fun h => (hO4b.2 x h).2 rfl); have hk46 : Keeps S w4 w6 := (hk5.mono (fun _ _ h => h.elim)).trans hk6 (fun k _ h => (hO4b.2 k h).1); have hO6b : OwnRow w6 (fun k => (S k ∨ w.heap.size ≤ k) ∧ k ≠ x) 5 1 (.slice A6 (B.length + 1) c6) (B.length + 1) (Disk.bytes8 B ++ Disk.bytes8 [b]) := hO6.mono (fun k _ h => by rcases h with h | h; exact ⟨.inl (hO4b.2 k h).1, (hO4b.2 k h).2⟩; exact ⟨.inr (by have := hk04.size; have := hk5.size; omega), by have := hk5.size; omega⟩))
              | ((with_reducible refine at_ 46 rfl ?_); go_must (refine step_lit rfl 22 _ 1 rfl [.int .u8 b] rfl rfl (by decide) 5 _ 1 Try.underlying22 row2_byte (by decide) (by decide) (by intro v hv; rw [List.mem_singleton] at hv; subst hv; rfl) ?_); intro w5 hb5 hk5 hs5))
            go_ret2
            rw [HQ.out]
            have hk : Keeps (· = x) w6 w8 := hk7.trans hk8 (fun _ _ h => h)
            exact ⟨rfl, ⟨_, hb8, .inl hx, by rw [List.length_append, Disk.bytes8_append]; exact hO6b.kept hk (fun k hk e => hk.2 e)⟩, ((hk04.mono (fun _ _ h => h.elim)).trans hk46 (fun _ _ h => h)).trans hk (fun k _ e => by subst e; exact hx)⟩
        · have HQ := Lib.hid (show rput m B false b = ((false, 0), (B ++ [b], false)) by rw [HP.out]; simp [e4, e5, e0])
          have f4 : (e == 4) = false := by simpa using e4
          have f5 : (e == 5) = false := by simpa using e5
          have f0 : (e == 0) = false := by simpa using e0
          clear e4 e5 e0
          go_enter Try.func20, Try.ntmps20
          go_wp2
          refine Canon.region [4, 6, 7] [(⟨x, 1, none⟩, .slice A B.length c), (⟨x, 0, none⟩, .int .i64 m)] [(3, 0), (11, 1)] (.hold [0, 1, 2, 5, 8, 9, 10, 3, 11] (.fork 4 (.loud 6 (.loud 7 (.seg [12, 13, 14, 15, 16, 17, 18, 19] .stop))) 6 (.loud 4 (.loud 7 (.seg [12, 13, 14, 15, 16, 17, 18, 19] .stop))))) (by kernel_rfl) (by kernel_rfl) (by repeat (first | (with_reducible exact Safe.body) | (with_reducible apply Safe.then) | (with_reducible apply Safe.inBlock) | (dsimp +zetaDelta only))) ?_
          simp only [Canon.pick, Canon.wpPlan, List.getElem?_toArray, List.getElem?_cons_zero, List.getElem?_cons_succ]
          have c0 := KD.cell c0 (fun h => h)
          have c1 := KD.cell c1 (fun h => h)
          have HB := Lib.hid (KD.heap HB.out (fun h => h))
          have HO := Lib.hid (HO.out.kept KD (fun _ _ h => h))
          refine ⟨fun p hp => by simp at hp; rcases hp with rfl | rfl; exact c1; exact c0, ?_⟩
          go_wp2
          refine ⟨?_, ?_⟩
          · go_wp2_with (go_at_call 13; refine Rets.use (copy_c _ B HRd.out hl2) ?_; rintro v1 w1 ⟨hr1, hk1⟩)
            refine ⟨fun p hp => by simp at hp; rcases hp with rfl | rfl; exact hk1.cell c1 (fun h => h); exact hk1.cell c0 (fun h => h), ?_⟩
            go_wp2_with ((with_reducible refine at_ 20 rfl ?_); go_must (refine step_lit rfl 22 _ 1 rfl [.int .u8 b] rfl rfl (by decide) 5 _ 1 Try.underlying22 row2_byte (by decide) (by decide) (by intro v hv; rw [List.mem_singleton] at hv; subst hv; rfl) ?_); intro w2 hb2 hk2 hs2)
            have hk12 := hk1.trans hk2 (fun _ _ h => h)
            have hO1 := hr1.kept hk2 (fun _ _ h => h)
            have hl8 := lit8 (B := w.drew.heap.size) hb2 hk1.size
            refine ⟨fun p hp => by simp at hp; rcases hp with rfl | rfl; exact hk12.cell c1 (fun h => h); exact hk12.cell c0 (fun h => h), ?_⟩
            go_wp2_with ((with_reducible refine at_ 21 rfl ?_); go_must (refine step_append_rd (ok2 := fun k => w.drew.heap.size ≤ k) rfl _ _ _ rfl 5 _ 1 1 Try.underlying22 row_byte rfl (by decide) v1 B.length (Disk.bytes8 B) rfl hO1 _ 1 (Disk.bytes8 [b]) rfl hl8 rfl (Disk.bytes8_one [b]) (by simp only [maxLen]; omega) (by omega) ?_); intro v3 w3 hO3 hk3)
            have hk13 := hk12.trans hk3 (fun k hk h => by have := hO1.2 k h; omega)
            refine ⟨fun p hp => by simp at hp; rcases hp with rfl | rfl; exact hk13.cell c1 (fun h => h); exact hk13.cell c0 (fun h => h), ?_⟩
            have hR3 : Rd w3 (fun j => j < w3.heap.size) v3 (B ++ [b]).length (Disk.bytes8 (B ++ [b])) := by rw [List.length_append, Disk.bytes8_append]; exact hO3.rd.lt.mono (fun k h => h.2)
            go_wp2_with (go_at_call 15; refine Rets.use (HW.out _ w3 (fun j h => h) v3 hR3) ?_; rintro v4 w4 ⟨hk4, u4, rfl, hO4⟩)
            refine ⟨by rfl, ⟨fun _ => rfl, fun _ => rfl, trivial⟩, ?_⟩
            have hk14 := hk13.trans hk4 (fun _ _ h => h)
            have hB4 := hk14.heap HB.out (fun h => h)
            have hO4b := HO.out.kept hk14 (fun _ _ h => h)
            have c1' := hk14.cell c1 (fun h => h)
            have xw : x < w4.heap.size := lt_of hB4
            have hk04 := KD.trans hk14 (fun _ _ h => h)
            go_wp2_with (first
              | ((with_reducible refine at_store 4 (.tmp 54) (.tmp 52) rfl ?_); go_must (refine step_store1 rfl _ _ _ rfl x 2 (.bool false) _ _ rfl rfl rfl hb7 (by simp) info_bool ?_); intro w8 hb8 hk8 hs8)
              | ((with_reducible refine at_store 22 (.tmp 49) (.tmp 47) rfl ?_); go_must (refine step_store1 rfl _ _ _ rfl x 1 (.slice A6 (B.length + 1) c6) _ _ rfl rfl rfl hb6 (by simp) info_bytes12 ?_); intro w7 hb7 hk7 hs7)
              | ((with_reducible refine at_ 47 rfl ?_); go_must (refine step_append_rd (ok2 := fun k => w4.heap.size ≤ k) rfl _ _ _ rfl 5 _ 1 1 Try.underlying22 row_byte rfl (by decide) (.slice A B.length c) B.length (Disk.bytes8 B) rfl (own_self (hO4b.kept hk5 (fun _ _ h => h))) _ 1 (Disk.bytes8 [b]) rfl (lit8 hb5 (Nat.le_refl _)) rfl (Disk.bytes8_one [b]) (by simp only [maxLen]; omega) (by omega) ?_); intro v6 w6 hO6 hk6; obtain ⟨A6, c6, rfl, _⟩ := hO6.slice; have hb6 := hk6.heap (hk5.heap hB4 (fun h => h)) (fun h => (hO4b.2 x h).2 rfl); have hk46 : Keeps S w4 w6 := (hk5.mono (fun _ _ h => h.elim)).trans hk6 (fun k _ h => (hO4b.2 k h).1); have hO6b : OwnRow w6 (fun k => (S k ∨ w.heap.size ≤ k) ∧ k ≠ x) 5 1 (.slice A6 (B.length + 1) c6) (B.length + 1) (Disk.bytes8 B ++ Disk.bytes8 [b]) := hO6.mono (fun k _ h => by rcases h with h | h; exact ⟨.inl (hO4b.2 k h).1, (hO4b.2 k h).2⟩; exact ⟨.inr (by have := hk04.size; have := hk5.size; omega), by have := hk5.size; omega⟩))
              | ((with_reducible refine at_ 46 rfl ?_); go_must (refine step_lit rfl 22 _ 1 rfl [.int .u8 b] rfl rfl (by decide) 5 _ 1 Try.underlying22 row2_byte (by decide) (by decide) (by intro v hv; rw [List.mem_singleton] at hv; subst hv; rfl) ?_); intro w5 hb5 hk5 hs5))
            go_ret2
            rw [HQ.out]
            have hk : Keeps (· = x) w6 w8 := hk7.trans hk8 (fun _ _ h => h)
            exact ⟨rfl, ⟨_, hb8, .inl hx, by rw [List.length_append, Disk.bytes8_append]; exact hO6b.kept hk (fun k hk e => hk.2 e)⟩, ((hk04.mono (fun _ _ h => h.elim)).trans hk46 (fun _ _ h => h)).trans hk (fun k _ e => by subst e; exact hx)⟩
          · go_wp2_with ((with_reducible refine at_ 20 rfl ?_); go_must (refine step_lit rfl 22 _ 1 rfl [.int .u8 b] rfl rfl (by decide) 5 _ 1 Try.underlying22 row2_byte (by decide) (by decide) (by intro v hv; rw [List.mem_singleton] at hv; subst hv; rfl) ?_); intro w1 hb1 hk1 hs1)
            refine ⟨fun p hp => by simp at hp; rcases hp with rfl | rfl; exact hk1.cell c1 (fun h => h); exact hk1.cell c0 (fun h => h), ?_⟩
            go_wp2_with (go_at_call 13; refine Rets.use (copy_c _ B (HRd.out.kept hk1 (fun _ _ h => h)) hl2) ?_; rintro v1 w2 ⟨hr1, hk2⟩)
            have hk12 := hk1.trans hk2 (fun _ _ h => h)
            have hO1 := hr1.mono (fun k _ h => Nat.le_trans hk1.size h)
            have hl8 := (lit8 (B := w.drew.heap.size) hb1 (Nat.le_refl _)).kept hk2 (fun _ _ h => h)
            refine ⟨fun p hp => by simp at hp; rcases hp with rfl | rfl; exact hk12.cell c1 (fun h => h); exact hk12.cell c0 (fun h => h), ?_⟩
            go_wp2_with ((with_reducible refine at_ 21 rfl ?_); go_must (refine step_append_rd (ok2 := fun k => w.drew.heap.size ≤ k) rfl _ _ _ rfl 5 _ 1 1 Try.underlying22 row_byte rfl (by decide) v1 B.length (Disk.bytes8 B) rfl hO1 _ 1 (Disk.bytes8 [b]) rfl hl8 rfl (Disk.bytes8_one [b]) (by simp only [maxLen]; omega) (by omega) ?_); intro v3 w3 hO3 hk3)
            have hk13 := hk12.trans hk3 (fun k hk h => by have := hO1.2 k h; omega)
            refine ⟨fun p hp => by simp at hp; rcases hp with rfl | rfl; exact hk13.cell c1 (fun h => h); exact hk13.cell c0 (fun h => h), ?_⟩
            have hR3 : Rd w3 (fun j => j < w3.heap.size) v3 (B ++ [b]).length (Disk.bytes8 (B ++ [b])) := by rw [List.length_append, Disk.bytes8_append]; exact hO3.rd.lt.mono (fun k h => h.2)
            go_wp2_with (go_at_call 15; refine Rets.use (HW.out _ w3 (fun j h => h) v3 hR3) ?_; rintro v4 w4 ⟨hk4, u4, rfl, hO4⟩)
            refine ⟨by rfl, ⟨fun _ => rfl, fun _ => rfl, trivial⟩, ?_⟩
            have hk14 := hk13.trans hk4 (fun _ _ h => h)
            have hB4 := hk14.heap HB.out (fun h => h)
            have hO4b := HO.out.kept hk14 (fun _ _ h => h)
            have c1' := hk14.cell c1 (fun h => h)
            have xw : x < w4.heap.size := lt_of hB4
            have hk04 := KD.trans hk14 (fun _ _ h => h)
            go_wp2_with (first
              | ((with_reducible refine at_store 4 (.tmp 54) (.tmp 52) rfl ?_); go_must (refine step_store1 rfl _ _ _ rfl x 2 (.bool false) _ _ rfl rfl rfl hb7 (by simp) info_bool ?_); intro w8 hb8 hk8 hs8)
              | ((with_reducible refine at_store 22 (.tmp 49) (.tmp 47) rfl ?_); go_must (refine step_store1 rfl _ _ _ rfl x 1 (.slice A6 (B.length + 1) c6) _ _ rfl rfl rfl hb6 (by simp) info_bytes12 ?_); intro w7 hb7 hk7 hs7)
              | ((with_reducible refine at_ 47 rfl ?_); go_must (refine step_append_rd (ok2 := fun k => w4.heap.size ≤ k) rfl _ _ _ rfl 5 _ 1 1 Try.underlying22 row_byte rfl (by decide) (.slice A B.length c) B.length (Disk.bytes8 B) rfl (own_self (hO4b.kept hk5 (fun _ _ h => h))) _ 1 (Disk.bytes8 [b]) rfl (lit8 hb5 (Nat.le_refl _)) rfl (Disk.bytes8_one [b]) (by simp only [maxLen]; omega) (by omega) ?_); intro v6 w6 hO6 hk6; obtain ⟨A6, c6, rfl, _⟩ := hO6.slice; have hb6 := hk6.heap (hk5.heap hB4 (fun h => h)) (fun h => (hO4b.2 x h).2 rfl); have hk46 : Keeps S w4 w6 := (hk5.mono (fun _ _ h => h.elim)).trans hk6 (fun k _ h => (hO4b.2 k h).1); have hO6b : OwnRow w6 (fun k => (S k ∨ w.heap.size ≤ k) ∧ k ≠ x) 5 1 (.slice A6 (B.length + 1) c6) (B.length + 1) (Disk.bytes8 B ++ Disk.bytes8 [b]) := hO6.mono (fun k _ h => by rcases h with h | h; exact ⟨.inl (hO4b.2 k h).1, (hO4b.2 k h).2⟩; exact ⟨.inr (by have := hk04.size; have := hk5.size; omega), by have := hk5.size; omega⟩))
              | ((with_reducible refine at_ 46 rfl ?_); go_must (refine step_lit rfl 22 _ 1 rfl [.int .u8 b] rfl rfl (by decide) 5 _ 1 Try.underlying22 row2_byte (by decide) (by decide) (by intro v hv; rw [List.mem_singleton] at hv; subst hv; rfl) ?_); intro w5 hb5 hk5 hs5))
            go_ret2
            rw [HQ.out]
            have hk : Keeps (· = x) w6 w8 := hk7.trans hk8 (fun _ _ h => h)
            exact ⟨rfl, ⟨_, hb8, .inl hx, by rw [List.length_append, Disk.bytes8_append]; exact hO6b.kept hk (fun k hk e => hk.2 e)⟩, ((hk04.mono (fun _ _ h => h.elim)).trans hk46 (fun _ _ h => h)).trans hk (fun k _ e => by subst e; exact hx)⟩
end Go.Proofs.Ytomnkdjlljobeaa
