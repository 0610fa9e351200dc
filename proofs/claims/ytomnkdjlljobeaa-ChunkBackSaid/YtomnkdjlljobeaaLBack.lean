/-
  ChunkBack: the walk.
-/
import Derived.Test.YtomnkdjlljobeaaLRoom
namespace Go.Proofs.Ytomnkdjlljobeaa
open Go.RowKit Go.Canon Go.Mem Go.Args
set_option linter.unusedVariables false
set_option linter.unusedSimpArgs false
set_option maxHeartbeats 6400000 in
set_option maxRecDepth 100000 in
theorem back_in (W : World) (v vh : Value) (l0 h0 : List Int) (size k : Int) (hr : Rd W (fun k => k < W.heap.size) v l0.length (Disk.bytes8 l0)) (hB : Byte l0) (hrh : Rd W (fun k => k < W.heap.size) vh h0.length (Disk.bytes8 h0)) (hBh : Byte h0) : Calls Try.prog 7 #[v, vh, .int .i64 size, .int .i64 k] W (Rets (Yes W)) := by
  have HCa := Lib.hid (cut_c v l0 hr 2048)
  have HCb := Lib.hid (cut_c vh h0 hrh 50)
  have hl : (l0.take 2048).length ≤ 2048 := by rw [List.length_take]; omega
  have hlh : (h0.take 50).length ≤ 50 := by rw [List.length_take]; omega
  have HB := Lib.hid (hB.take 2048)
  have HBh := Lib.hid (hBh.take 50)
  clear hr hB hrh hBh
  generalize l0.take 2048 = l at *
  generalize h0.take 50 = beh at *
  obtain ⟨s1, s2⟩ := least_to size 1 2048 (by decide)
  obtain ⟨sz, hsz⟩ : ∃ sz : Nat, least size 1 2048 = sz := ⟨(least size 1 2048).toNat, by omega⟩
  rw [hsz] at s1 s2
  have HL1 := Lib.hid hsz
  have hs0 : 0 < sz := by omega
  have HP := Lib.hid (show printed l sz = (Chunk.pr sz l, 0) by unfold printed; rw [if_neg (by omega), if_neg (by omega)]; simp)
  have HW := Lib.hid (back_law hs0 l beh (mo := 2048) (by decide) (by decide))
  have hpl0 : (Chunk.pr sz l).length ≤ 20000 := by have := pr_len sz l.length l (Nat.le_refl _) hl; omega
  have hp1 := pr_five sz l
  have HPB := Lib.hid (pr_byte sz l.length l (Nat.le_refl _) HB.out)
  have HPr := Lib.hid (fun (w : World) (ok : Nat → Prop) (v : Value) (h : Rd w ok v l.length (Disk.bytes8 l)) (hok : ∀ j, ok j → j < w.heap.size) => print12_c v l sz h hok)
  rw [HP.out] at HPr
  have HWh := Lib.hid (fun (w : World) (ok : Nat → Prop) (v : Value) (h : Rd w ok v (Chunk.pr sz l ++ beh).length (Disk.bytes8 (Chunk.pr sz l ++ beh))) => whole12_c v _ 2048 h (by rw [List.length_append]; omega) (HPB.out.app HBh.out))
  rw [HW.out, if_pos (show (l.length : Int) ≤ 2048 by omega)] at HWh
  obtain ⟨t1, t2⟩ := least_to k 0 (((Chunk.pr sz l).length : Int) - 1) (by omega)
  obtain ⟨j, hj⟩ : ∃ j : Nat, least k 0 (((Chunk.pr sz l).length : Int) - 1) = j := ⟨(least k 0 (((Chunk.pr sz l).length : Int) - 1)).toNat, by omega⟩
  rw [hj] at t1 t2
  have HL2 := Lib.hid hj
  have hjl : j < (Chunk.pr sz l).length := by omega
  have HWs := Lib.hid (fun (w : World) (ok : Nat → Prop) (v : Value) (h : Rd w ok v ((Chunk.pr sz l).take j).length (Disk.bytes8 ((Chunk.pr sz l).take j))) => whole12_c v _ 2048 h (by rw [List.length_take]; omega) (HPB.out.take j))
  rw [short_law hs0 l hl hjl] at HWs
  have HTk := Lib.hid (show ((Chunk.pr sz l).take j).length = j by rw [List.length_take]; omega)
  generalize Chunk.pr sz l = t at *
  clear hsz s1 s2 HW HP hj t1 t2
  go_enter Try.func7, Try.ntmps7
  go_wp2_with (first
    | (go_at_call 17; refine Rets.use (lives12_c _) ?_; rintro v w9 ⟨rfl, hk9⟩)
    | (go_at_call 14; refine Rets.use (HWs.out w7 _ _ hRs) ?_; intro v w8 h8; obtain ⟨hk8, u8, rfl, hO8⟩ := (show Keeps (fun _ => False) w7 w8 ∧ ∃ u, v = .tuple #[u, .int .i64 0, .int .i64 3] ∧ OwnRow w8 (fun k => w7.heap.size ≤ k) 5 1 u 0 (Disk.bytes8 []) from h8); obtain ⟨A8, c8, rfl, _⟩ := hO8.slice)
    | (go_at_call 25; refine Rets.use (least_c _ _ _ _) ?_; rintro v w6b ⟨rfl, rfl⟩; rw [HL2.out])
    | (go_at_call 16; refine Rets.use (same_self hO6.rd (hCa.kept hk06 (fun _ _ h => h)) (by omega)) ?_; rintro v w7 ⟨rfl, hk7⟩; have hRs : Rd w7 (fun j => W.heap.size ≤ j ∧ j < w2.heap.size) (.slice A2 j c2) (t.take j).length (Disk.bytes8 (t.take j)) := by rw [HTk.out]; exact take8 (((HRt.out.kept hk25 (fun j h1 h2 => by omega)).kept hk6 (fun _ _ h => h)).kept hk7 (fun _ _ h => h)) (by omega))
    | (go_at_call 14; refine Rets.use (HWh.out w5 _ v5 (by rw [List.length_append, Disk.bytes8_append]; exact hO5.rd)) ?_; rintro v w6 ⟨hk6, u6, rfl, hO6⟩; have hk06 : Keeps (fun _ => False) W w6 := hk05.trans hk6 (fun _ _ h => h))
    | ((with_reducible refine at_ 30 rfl ?_); go_must (refine step_append_rd (ok2 := fun k => k < W.heap.size) rfl _ _ _ rfl 5 _ 1 1 Try.underlying22 row_byte rfl (by decide) v3 t.length (Disk.bytes8 t) rfl hN3 _ beh.length (Disk.bytes8 beh) rfl (hCb.kept hk03 (fun _ _ h => h)) (by rw [Disk.bytes8_len, Nat.mul_one]) (Disk.bytes8_one beh) (by simp only [maxLen]; omega) (by omega) ?_); intro v5 w5 hO5 hk5; have hk25 : Keeps (fun j => w2.heap.size ≤ j) w2 w5 := (hk3.mono (fun _ _ h => h.elim)).trans hk5 (fun j _ e => hN3.2 j e); have hk05 : Keeps (fun _ => False) W w5 := hk03.trans hk5 (fun j hj e => by have := hN3.2 j e; have := hO2.2.size; omega))
    | (go_at_call 13; refine Rets.use (copy_c _ t hO2.1.rd (by omega)) ?_; rintro v3 w3 ⟨hN3, hk3⟩; have hk03 : Keeps (fun _ => False) W w3 := hO2.2.trans hk3 (fun _ _ h => h))
    | (go_at_call 23; refine Rets.use (HPr.out W _ _ hCa (fun j h => h)) ?_; intro v w2 h2; obtain ⟨u2, rfl, hO2⟩ := (show ∃ u, v = .tuple #[u, .int .i64 0] ∧ Out W w2 u t from h2); have HRt := Lib.hid hO2.1.rd.lt; obtain ⟨A2, c2, rfl, _⟩ := hO2.1.slice)
    | (go_at_call 25; refine Rets.use (least_c _ _ _ _) ?_; rintro v w1 ⟨rfl, rfl⟩; rw [HL1.out])
    | (go_at_call 12; have hz := hCa; clear hz; refine Rets.use HCb.out ?_; rintro vCb w0b ⟨hCb, rfl⟩)
    | (go_at_call 12; refine Rets.use HCa.out ?_; rintro vCa w0 ⟨hCa, rfl⟩))
  go_ret
  exact ⟨rfl, ((hk06.trans hk7 (fun _ _ h => h)).trans hk8 (fun _ _ h => h)).trans hk9 (fun _ _ h => h)⟩
theorem back12_walk (W : World) (a0 : Option Addr) (n0 c0 : Nat) (x0 : (Kd.slice (.int .u8)).Dat) (H0 : Has W (.slice (.int .u8)) [.slice a0 n0 c0] x0) (a1 : Option Addr) (n1 c1 : Nat) (x1 : (Kd.slice (.int .u8)).Dat) (H1 : Has W (.slice (.int .u8)) [.slice a1 n1 c1] x1) (n : Int) (wn : (Lit.int .i64 n).wf = true) (m : Int) (wm : (Lit.int .i64 m).wf = true) :
    Calls Try.prog 7 #[.slice a0 n0 c0, .slice a1 n1 c1, .int .i64 n, .int .i64 m] W (Rets (Yes W)) := back_in W _ _ _ _ n m H0.bytes.1 (byte_of H0) H1.bytes.1 (byte_of H1)
end Go.Proofs.Ytomnkdjlljobeaa
