/-
  DiskFast: the walk.
-/
import Derived.Test.YtmkpdoljaccpaaaDiskP
namespace Go.Proofs.Ytmkpdoljaccpaaa
open Go.RowKit Go.Canon Go.Mem Go.Args
set_option linter.unusedVariables false
set_option linter.unusedSimpArgs false
set_option maxHeartbeats 1600000 in
theorem fast_in (W : World) (v0 v1 : Value) (l : List Do9) (ks : List Bool) (hD : Dos W v0 l) (hK : Rd W (fun k => k < W.heap.size) v1 ks.length (bools ks)) (lk : ks.length ≤ maxLen) : Calls Try.prog 3 #[v0, v1] W (Rets (Yes W)) := by
  have HD := Lib.hid hD
  have HK := Lib.hid hK
  have lk' : (ks.take 300).length ≤ 9223372036854775807 := by rw [List.length_take]; omega
  have HI := Lib.hid (run_inv fresh_inv (l.take 150))
  have HF := Lib.hid (run_few (fresh 8) (l.take 150))
  have HF2 := Lib.hid (show (l.take 150).length ≤ 150 by rw [List.length_take]; omega)
  have HF0 := Lib.hid (show (fresh 8).opn.length = 0 from rfl)
  clear hD hK
  generalize hs : run (fresh 8) (l.take 150) = s at *
  have HS := Lib.hid hs
  clear hs
  obtain ⟨e1, e2, e3⟩ := fast_law HI.out (ks.take 300)
  have HE1 := Lib.hid e1
  have HE2 := Lib.hid e2
  have HE3 := Lib.hid e3
  have few : s.opn.length ≤ 1000000 := by have := HF.out; have := HF2.out; have := HF0.out; omega
  have few2 : s.sync.2.opn.length ≤ 1000000 := by rw [e2]; omega
  have HB1 := Lib.hid (rows_big HI.out.sync_inv)
  clear e1 e2 e3
  go_enter Try.func3, Try.ntmps3
  go_wp2_with (first
    | (go_at_call 13; go_loud (refine Rets.use (made09_c HD.out) ?_; rintro v w1 ⟨hk1, g, rfl, hd1⟩; have z1 := hk1.size; rw [HS.out] at hd1))
    | (go_at_call 14; refine Rets.use (dSync_c hd1 few) ?_; rintro v w2 ⟨rfl, hd2, hk2⟩; have z2 := hk2.size; rw [HE1.out])
    | (go_at_call 15; refine Rets.use (dOpen_c hd2) ?_; rintro v w3 ⟨rfl, rfl⟩; rw [HE2.out])
    | (go_at_call 16; refine Rets.use (all_c hd2.bound (fun k h => h.2)) ?_; rintro v w3 ⟨hk3, hr3⟩; have z3 := hk3.size)
    | (go_at_call 18; refine Rets.use (kept_c (((HK.out.kept hk1 (fun _ _ h => h)).kept hk2 (fun k h1 h2 => by omega)).kept hk3 (fun _ _ h => h))) ?_; rintro v4 w4 ⟨hr4, rfl⟩)
    | (go_at_call 17; go_loud (refine Rets.use (dCrash_c (hd2.bound.kept hk3 (fun _ _ h => h)) few2 _ _ hr4 (fun k h1 h2 => by omega) lk') ?_; rintro v w5 ⟨rfl, hd5, hk5⟩; have z5 := hk5.size))
    | (go_at_call 16; refine Rets.use (all_c hd5.bound (fun k h => h.2)) ?_; rintro v w6 ⟨hk6, hr6⟩)
    | (go_at_call 19; go_loud (refine Rets.use (same09_c ((hr3.rd.kept hk5 (fun k h1 h2 => by omega)).kept hk6 (fun _ _ h => h)) hr6.rd (by rw [rows_len, rows_len]) (by rw [rows_len]; decide) HB1.out) ?_; rintro v w7 ⟨rfl, hk7⟩; rw [HE3.out]))
    | (go_at_call 20; refine Rets.use (lives09_c _) ?_; rintro v w8 ⟨rfl, hk8⟩))
  go_ret
  exact ⟨rfl, (((((hk1.trans hk2 (fun k h1 h2 => by omega)).trans hk3 (fun _ _ h => h)).trans hk5 (fun k h1 h2 => by omega)).trans hk6 (fun _ _ h => h)).trans hk7 (fun _ _ h => h)).trans hk8 (fun _ _ h => h)⟩
theorem fast_walk (W : World) (a0 : Option Addr) (n0 c0 : Nat) (x0 : (Kd.slice KDo).Dat) (H0 : Has W (.slice KDo) [.slice a0 n0 c0] x0) (a1 : Option Addr) (n1 c1 : Nat) (x1 : (Kd.slice .bool).Dat) (H1 : Has W (.slice .bool) [.slice a1 n1 c1] x1) :
    Calls Try.prog 3 #[.slice a0 n0 c0, .slice a1 n1 c1] W (Rets (Yes W)) := fast_in W _ _ _ _ (Dos.of H0) H1.bools.1 H1.bools.2
end Go.Proofs.Ytmkpdoljaccpaaa
