/-
  ChunkSteps: the walk.
-/
import Derived.Test.YtomnkdjlljobeaaLSteps
namespace Go.Proofs.Ytomnkdjlljobeaa
open Go.RowKit Go.Canon Go.Mem Go.Args
set_option linter.unusedVariables false
set_option linter.unusedSimpArgs false
/-- The two readers in memory, apart. -/
def Pair (W w : World) (g x : Nat) (m : Int) (r : Chunk.Rd) (B : List Int) (en : Bool) : Prop := Keeps (fun _ => False) W w ∧ ∃ P Q : Nat → Prop, RdIs w P g r ∧ RefIs w Q x m B en ∧ (∀ j, P j → W.heap.size ≤ j ∧ j < w.heap.size ∧ ¬ Q j) ∧ (∀ j, Q j → W.heap.size ≤ j ∧ j < w.heap.size)
theorem Pair.kept {W w w' : World} {g x : Nat} {m : Int} {r : Chunk.Rd} {B : List Int} {en : Bool} {T : Nat → Prop} (h : Pair W w g x m r B en) (hk : Keeps T w w') (hT : ∀ j, T j → w.heap.size ≤ j) : Pair W w' g x m r B en := by
  obtain ⟨h0, P, Q, h1, h2, h3, h4⟩ := h
  have hs := hk.size
  have hs0 := h0.size
  exact ⟨h0.trans hk (fun j hj h => by have := hT j h; omega), P, Q, h1.kept hk (fun j hj h => by have := (h3 j hj).2.1; have := hT j h; omega), h2.kept hk (fun j hj h => by have := (h4 j hj).2; have := hT j h; omega), fun j hj => ⟨(h3 j hj).1, by have := (h3 j hj).2.1; omega, (h3 j hj).2.2⟩, fun j hj => ⟨(h4 j hj).1, by have := (h4 j hj).2; omega⟩⟩
theorem Pair.put {W w w' : World} {g x : Nat} {m : Int} {r' : Chunk.Rd} {B : List Int} {en : Bool} {P Q : Nat → Prop} (h0 : Keeps (fun _ => False) W w) (h2 : RefIs w Q x m B en) (h3 : ∀ j, P j → W.heap.size ≤ j ∧ j < w.heap.size ∧ ¬ Q j) (h4 : ∀ j, Q j → W.heap.size ≤ j ∧ j < w.heap.size)
    (h1 : RdIs w' (fun j => P j ∨ w.heap.size ≤ j) g r') (hk : Keeps P w w') : Pair W w' g x m r' B en := by
  have hs := hk.size
  have hs0 := h0.size
  refine ⟨h0.trans hk (fun j hj h => by have := (h3 j h).1; omega), fun j => (P j ∨ w.heap.size ≤ j) ∧ j < w'.heap.size, Q, h1.mono (fun j hj h => ⟨h, hj⟩), h2.kept hk (fun j hj h => (h3 j h).2.2 hj), fun j hj => ⟨?_, hj.2, fun hq => ?_⟩, fun j hj => ⟨(h4 j hj).1, by have := (h4 j hj).2; omega⟩⟩
  · rcases hj.1 with h | h
    · exact (h3 j h).1
    · omega
  · rcases hj.1 with h | h
    · exact (h3 j h).2.2 hq
    · have := (h4 j hq).2; omega
theorem Pair.rput {W w w' : World} {g x : Nat} {m : Int} {r : Chunk.Rd} {B' : List Int} {en' : Bool} {P Q : Nat → Prop} (h0 : Keeps (fun _ => False) W w) (h1 : RdIs w P g r) (h3 : ∀ j, P j → W.heap.size ≤ j ∧ j < w.heap.size ∧ ¬ Q j) (h4 : ∀ j, Q j → W.heap.size ≤ j ∧ j < w.heap.size)
    (h2 : RefIs w' (fun j => Q j ∨ w.heap.size ≤ j) x m B' en') (hk : Keeps Q w w') : Pair W w' g x m r B' en' := by
  have hs := hk.size
  have hs0 := h0.size
  refine ⟨h0.trans hk (fun j hj h => by have := (h4 j h).1; omega), P, fun j => (Q j ∨ w.heap.size ≤ j) ∧ j < w'.heap.size, h1.kept hk (fun j hj h => (h3 j hj).2.2 h), h2.mono (fun j hj h => ⟨h, hj⟩), fun j hj => ⟨(h3 j hj).1, by have := (h3 j hj).2.1; omega, fun hq => ?_⟩, fun j hj => ⟨?_, hj.2⟩⟩
  · rcases hq.1 with h | h
    · exact (h3 j hj).2.2 h
    · have := (h3 j hj).2.1; omega
  · rcases hj.1 with h | h
    · exact (h4 j h).1
    · omega
theorem same_eq {ok ok2 : Nat → Prop} {w : World} {v v2 : Value} {xs ys : List Int} (e : xs = ys) (hr : Rd w ok v xs.length (Disk.bytes8 xs)) (hr2 : Rd w ok2 v2 ys.length (Disk.bytes8 ys)) (hl : xs.length ≤ 9223372036854775807) : Calls Try.prog 16 #[v, v2] w (Rets (Still (.bool true) w)) := by
  subst e; exact same_self hr hr2 hl
theorem info_byte : (Try.prog.info? 5).map (·.size) = some 1 := by kernel_rfl
set_option maxHeartbeats 6400000 in
set_option maxRecDepth 100000 in
theorem steps_in (W : World) (v : Value) (l0 : List Int) (most : Int) (hr : Rd W (fun k => k < W.heap.size) v l0.length (Disk.bytes8 l0)) (hB : Byte l0) : Calls Try.prog 4 #[v, .int .i64 most] W (Rets (Yes W)) := by
  have HC := Lib.hid (cut_c v l0 hr 150)
  have hl : (l0.take 150).length ≤ 150 := by rw [List.length_take]; omega
  have HB := Lib.hid (hB.take 150)
  clear hr hB
  generalize l0.take 150 = l at *
  by_cases hm : most < 0 ∨ 2048 < most
  · have HN := Lib.hid (new12_no W most hm)
    by_cases hm0 : most < 0
    · clear hm
      go_enter Try.func4, Try.ntmps4
      go_wp2_with (first
        | (go_at_call 17; refine Rets.use (lives12_c _) ?_; rintro v w7 ⟨rfl, hk7⟩)
        | (go_at_call 18; refine Rets.use HN.out ?_; rintro v w1 ⟨rfl, rfl⟩)
        | (go_at_call 12; refine Rets.use HC.out ?_; rintro vC w0 ⟨hC, rfl⟩))
      go_ret
      exact ⟨rfl, hk7⟩
    · have hm1 : 2048 < most := by omega
      clear hm
      go_enter Try.func4, Try.ntmps4
      go_wp2_with (first
        | (go_at_call 17; refine Rets.use (lives12_c _) ?_; rintro v w7 ⟨rfl, hk7⟩)
        | (go_at_call 18; refine Rets.use HN.out ?_; rintro v w1 ⟨rfl, rfl⟩)
        | (go_at_call 12; refine Rets.use HC.out ?_; rintro vC w0 ⟨hC, rfl⟩))
      go_ret
      exact ⟨rfl, hk7⟩
  · have m0 : 0 ≤ most := by omega
    have m1 : most ≤ 2048 := by omega
    clear hm
    go_enter Try.func4, Try.ntmps4
    go_wp2_with (first
      | (go_at_call 18; refine Rets.use (new12_c W most m0 m1) ?_; rintro v w1 ⟨hk1, g, rfl, hr1⟩)
      | (go_at_call 12; refine Rets.use HC.out ?_; rintro vC w0 ⟨hC, rfl⟩; obtain ⟨AC, cC, rfl, _⟩ := hC.slice))
    have hs1 := hk1.size
    have HP0 := Lib.hid (show Pair W (w1.alloc (.cells #[.int .i64 most, .slice none 0 0, .bool false] 38)) g w1.heap.size most ⟨most, 0, 0, []⟩ [] false from
      ⟨hk1.alloc _, fun j => W.heap.size ≤ j ∧ j < w1.heap.size, fun j => j = w1.heap.size, (hr1.mono (fun j hj h => ⟨h, hj⟩)).kept ((Keeps.refl (fun _ => False) w1).alloc _) (fun _ _ h => h), ⟨_, heap_alloc_new w1 _, rfl, OwnRow.nil _ _ _ _⟩, fun j hj => ⟨hj.1, by simp; omega, by omega⟩, fun j hj => ⟨by omega, by simp; omega⟩⟩)
    have HR := Lib.hid hC
    have HM0 := Lib.hid (show Mild ⟨most, 0, 0, []⟩ 0 from ⟨⟨m0, m1⟩, ⟨Int.le_refl 0, by show (0 : Int) ≤ 8; decide⟩, .inl (Int.le_refl 0), fun h => by simp at h, by show (0 : Int) ≤ 2048; decide, Nat.le_refl _⟩)
    clear hk1 hr1 hC
    generalize w1.heap.size = x at *
    go_loopw [8] (fun i wr => ∃ (k : Nat) (r : Chunk.Rd) (B : List Int) (en : Bool), k ≤ l.length ∧ i = .int .i64 k ∧ Pair W wr g x most r B en ∧ Mild r k ∧ B.length ≤ k ∧ Byte B ∧ Hid (Alike most r B en)) (fun i _ => l.length - (intOf i).toNat)
    case atStart => exact ⟨0, _, _, _, Nat.zero_le _, rfl, HP0.out, HM0.out, Nat.zero_le _, (fun y hy => (by cases hy)), Lib.hid (Alike.start most)⟩
    case round =>
      obtain ⟨k, r, B, en, hk, rfl, hP, hM, hBl, hBB, HA⟩ := hrel
      have HP := Lib.hid hP
      have HR2 := Lib.hid (HR.out.kept hP.1 (fun _ _ h => h))
      clear HP0 HM0
      by_cases hlt : k < l.length
      · obtain ⟨b, o, c', e, _, hbW, hcell⟩ := HR2.out.at (by intro e; have := congrArg List.length e; rw [Disk.bytes8_len, List.length_nil] at this; omega)
        cases e
        have cx : wr.cell? ⟨b, o + k, none⟩ = some (.int .u8 l[k]) := hcell k _ (by simp [Disk.bytes8, hlt])
        have hx := HB.out l[k] (List.getElem_mem _)
        generalize l[k] = y at *
        obtain ⟨h0, P, Q, h1, h2, h3, h4⟩ := hP
        have HPut := Lib.hid (put12_c h1 hM (by omega) y hx)
        have hM2 := hM.put y
        obtain ⟨HSt, HA2⟩ := HA.out.step m0 m1 y
        have hBl2 := rput_len most B en y
        have hBB2 := rput_byte (m := most) (en := en) hBB hx
        have HRp := Lib.hid (fun (w : World) (Q : Nat → Prop) (h : RefIs w Q x most B en) => rput_c h (by omega) hBB y hx)
        generalize rput most B en y = q at *
        generalize Chunk.put r y = p at *
        obtain ⟨⟨d, e⟩, r'⟩ := p
        obtain ⟨⟨d', e'⟩, B', en'⟩ := q
        simp only at HSt HA2 hM2 hBl2 hBB2
        cases HSt
        have HA2 := Lib.hid HA2
        have hbod := HA2.out.body
        have HBod := Lib.hid hbod
        have hrb := hM2.len
        have HPk := Lib.hid (fun w' (h1 : RdIs w' (fun j => P j ∨ wr.heap.size ≤ j) g r') (hk : Keeps P wr w') => Pair.put h0 h2 h3 h4 h1 hk)
        have HCx := Lib.hid (fun w' (hk : Keeps P wr w') => hk.cell cx (fun h => by have := (h3 b h).1; omega))
        clear hcell h1 h2 h3 h4 hM HA hbod
        go_wp2_with (first
          | (go_at_call 16; refine Rets.use (same_eq HBod.out.symm (hO3.rd.kept hk4 (fun _ _ h => h)) hO4.rd (by omega)) ?_; rintro v w5 ⟨rfl, hk5⟩)
          | (go_at_call 22; go_loud (refine Rets.use (rbody_c hRf (by omega) hBB2 m1) ?_); rintro v4 w4 ⟨hO4, hk4⟩)
          | (go_at_call 21; go_loud (refine Rets.use (body12_c hRd (by omega)) ?_); rintro v3 w3 ⟨hO3, hk3⟩; have hP3 := Pair.kept hP2 hk3 (fun _ h => h.elim); obtain ⟨_, P3, Q3, _, hRf, _⟩ := id hP3)
          | (go_at_call 20; go_loud (refine Rets.use (HRp.out w2 Q1 hRf1) ?_); rintro v w2b ⟨rfl, hRf2, hk2b⟩; have hP2 := Pair.rput hP0 hRd1 hs1 hs2 hRf2 hk2b; obtain ⟨_, P2, Q2, hRd, _⟩ := id hP2)
          | (go_at_call 19; go_loud (refine Rets.use HPut.out ?_); rintro v w2 ⟨rfl, hRd2, hk2⟩; have hP1 := HPk.out w2 hRd2 hk2; obtain ⟨hP0, P1, Q1, hRd1, hRf1, hs1, hs2⟩ := id hP1; have cx2 := HCx.out w2 hk2)) 
        have hk25 := (hk3.trans hk4 (fun _ _ h => h)).trans hk5 (fun _ _ h => h)
        have hO5 := hO3.kept (hk4.trans hk5 (fun _ _ h => h)) (fun _ _ h => h)
        by_cases hn : 0 < r'.b.length
        · obtain ⟨tb, cap, cur, rfl, htb, hcb, hn1, hn2, hn3, _⟩ := hO5.form hn
          have HCur := Lib.hid (show ∃ cur : List Value, w5.heap[tb]? = some (.cells cur.toArray 5 (0, 0)) ∧ r'.b.length ≤ cur.length from ⟨cur.toList, hcb, by simp; omega⟩)
          have HP2 := Lib.hid hP2
          have HK25 := Lib.hid (hk25.mono (S' := fun j => w2b.heap.size ≤ j) (fun _ _ h => h.elim))
          clear hcb hn3 hO5 hO3 hO4 hk25 hk3 hk4 hk5 hP3 hRf hRd hP2 hP1 hP0 hRd1 hRf1 hs1 hs2 hRf2 hRd2 hk2 hk2b
          go_loopw [14] (fun i wr2 => ∃ q : Nat, q ≤ r'.b.length ∧ i = .int .i64 q ∧ Keeps (fun j => w2b.heap.size ≤ j) w2b wr2 ∧ ∃ cur : List Value, wr2.heap[tb]? = some (.cells cur.toArray 5 (0, 0)) ∧ r'.b.length ≤ cur.length) (fun i _ => r'.b.length - (intOf i).toNat)
          case atStart => exact ⟨0, Nat.zero_le _, rfl, HK25.out, HCur.out⟩
          case round =>
            obtain ⟨q, hq, rfl, hKq, cur2, hc2, hl2⟩ := hrel
            have HKq := Lib.hid hKq
            have HC2 := Lib.hid hc2
            clear hKq hc2 HCur HK25
            by_cases hlq : q < r'.b.length
            · go_wp2_with ((with_reducible refine at_store 5 (.tmp 93) (.const (.int .u8 7)) rfl ?_); go_must (refine step_store1 rfl _ _ _ rfl tb q (.int .u8 7) _ _ rfl rfl rfl HC2.out (by omega) info_byte ?_); intro w6 hb6 hk6 hs6)
              go_roundw
              case rel => exact ⟨q + 1, by omega, by go_num, HKq.out.trans hk6 (fun j _ e => by subst e; exact htb), _, hb6, by rw [List.length_set]; exact hl2⟩
              case measure => simp [intOf]; omega
            · go_wp2
              go_roundw
              case rel => exact ⟨k + 1, r', B', en', by omega, by go_num, Pair.kept HP2.out HKq.out (fun j h => h), hM2, by omega, hBB2, HA2⟩
              case measure => simp [intOf]; omega
        · obtain ⟨A3, c3, rfl, _⟩ := hO5.slice
          have HP2 := Lib.hid hP2
          have HK25 := Lib.hid (hk25.mono (S' := fun j => w2b.heap.size ≤ j) (fun _ _ h => h.elim))
          clear hO5 hO3 hO4 hk25 hk3 hk4 hk5 hP3 hRf hRd hP2 hP1 hP0 hRd1 hRf1 hs1 hs2 hRf2 hRd2 hk2 hk2b
          go_loopw [14] (fun i wr2 => i = .int .i64 0 ∧ Keeps (fun j => w2b.heap.size ≤ j) w2b wr2) (fun i _ => 0)
          case atStart => exact ⟨rfl, HK25.out⟩
          case round =>
            obtain ⟨rfl, hKq⟩ := hrel
            have HKq := Lib.hid hKq
            clear hKq HK25
            go_wp2
            go_roundw
            case rel => exact ⟨k + 1, r', B', en', by omega, by go_num, Pair.kept HP2.out HKq.out (fun j h => h), hM2, by omega, hBB2, HA2⟩
            case measure => simp [intOf]; omega
      · have HBod := Lib.hid HA.out.body
        have hrb := hM.len
        obtain ⟨h0, P, Q, h1, h2, h3, h4⟩ := hP
        go_wp2_with (first
          | (go_at_call 17; refine Rets.use (lives12_c _) ?_; rintro v w7 ⟨rfl, hk7⟩)
          | (go_at_call 16; refine Rets.use (same_eq HBod.out.symm (hO3.rd.kept hk4 (fun _ _ h => h)) hO4.rd (by omega)) ?_; rintro v w5 ⟨rfl, hk5⟩)
          | (go_at_call 22; refine Rets.use (rbody_c (h2.kept hk3 (fun _ _ h => h)) (by omega) hBB m1) ?_; rintro v4 w4 ⟨hO4, hk4⟩)
          | (go_at_call 21; refine Rets.use (body12_c h1 (by omega)) ?_; rintro v3 w3 ⟨hO3, hk3⟩))
        go_ret
        exact ⟨rfl, (((h0.trans hk3 (fun _ _ h => h)).trans hk4 (fun _ _ h => h)).trans hk5 (fun _ _ h => h)).trans hk7 (fun _ _ h => h)⟩
theorem steps12_walk (W : World) (a0 : Option Addr) (n0 c0 : Nat) (x0 : (Kd.slice (.int .u8)).Dat) (H0 : Has W (.slice (.int .u8)) [.slice a0 n0 c0] x0) (n : Int) (wn : (Lit.int .i64 n).wf = true) :
    Calls Try.prog 4 #[.slice a0 n0 c0, .int .i64 n] W (Rets (Yes W)) := steps_in W _ _ n H0.bytes.1 (byte_of H0)
end Go.Proofs.Ytomnkdjlljobeaa
