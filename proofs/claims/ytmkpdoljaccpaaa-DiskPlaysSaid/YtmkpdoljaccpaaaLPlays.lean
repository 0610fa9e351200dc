/-
  DiskPlays: the walk.
-/
import Derived.Test.YtmkpdoljaccpaaaDoes
namespace Go.Proofs.Ytmkpdoljaccpaaa
open Go.RowKit Go.Canon Go.Mem Go.Args
open Go.Disk (St)
set_option linter.unusedVariables false
set_option linter.unusedSimpArgs false
theorem Good.start {n : Nat} : Good (fresh n) ⟨n, [], -1, true⟩ 0 := ⟨⟨[], Sim.start n⟩, by simp [fresh], Nat.le_refl _, fun p hp => (by cases hp), by simp only; omega⟩
/-- Both are new. -/
theorem Duo.start {W w1 w2 : World} {g x : Nat} {n : Nat} (hk1 : Keeps (fun _ => False) W w1) (hd : DIs w1 (fun k => W.heap.size ≤ k ∧ k < w1.heap.size) g (fresh n)) (hk2 : Keeps (fun _ => False) w1 w2) (hx : x = w1.heap.size) (hR : RefMem w2 x (fun _ => False) (fun _ => False) ⟨n, [], -1, true⟩) : Duo W w2 g x (fresh n) ⟨n, [], -1, true⟩ (fun _ => False) := by
  have s1 := hk1.size
  have s2 := hk2.size
  have hx2 : x < w2.heap.size := by obtain ⟨v, cs, hb, _⟩ := hR; exact lt_of hb
  exact ⟨hk1.trans hk2 (fun _ _ h => h), _, _, _, hd.kept hk2 (fun _ _ h => h), hR, fun k hk => ⟨hk.1, by omega, by omega, fun h => h, fun h => h⟩, ⟨by omega, hx2⟩, fun k h => h.elim, fun k h => h.elim, fun k h => h.elim⟩
/-- A call of the second row. -/
def look9 (a : Int) : Do9 := ⟨9, a, [], []⟩
theorem does9_look (s : St) (r : RefD) (a : Int) : does9 s r (look9 a) = (s, r) := by unfold does9 look9; simp
theorem info_do : (Try.prog.info? 40).map (·.size) = some 4 := by kernel_rfl
theorem Good.wide {s : St} {r : RefD} {n n' : Nat} (h : Good s r n) (hn : n ≤ n') : Good s r n' := ⟨h.sim, Nat.le_trans h.few hn, Nat.le_trans h.len hn, h.b64, h.left⟩
set_option maxHeartbeats 3200000 in
set_option maxRecDepth 100000 in
theorem plays_in (W : World) (n : Int) (v : Value) (l : List Do9) (hn : -9223372036854775808 ≤ n ∧ n ≤ 9223372036854775807) (hD : Dos W v l) : Calls Try.prog 6 #[.int .i64 n, v] W (Rets (Yes W)) := by
  have HD := Lib.hid hD
  clear hD
  by_cases h0 : n < 1 ∨ 4096 < n
  · have HN := Lib.hid (show Calls Try.prog 30 #[.int .i64 n] W (Rets fun v w' => Keeps (fun _ => False) W w' ∧ v = .tuple #[.pointer none, .int .i64 2]) from Rets.use (new_c n W) fun v w' ⟨h3, h4⟩ => ⟨h3, (h4.resolve_left (fun h => by omega)).2⟩)
    have HR := Lib.hid (fun W => rnew_no W n h0)
    clear h0
    go_enter Try.func6, Try.ntmps6
    go_wp2_with (first
      | (go_at_call 20; go_loud (refine Rets.use (lives09_c _) ?_); rintro v3 w3 ⟨rfl, hk3⟩)
      | (go_at_call 31; go_loud (refine Rets.use (HR.out _) ?_); rintro v2 w2 ⟨rfl, rfl⟩)
      | (go_at_call 30; go_loud (refine Rets.use HN.out ?_); rintro v1 w1 ⟨hk1, rfl⟩))
    go_ret
    exact ⟨rfl, hk1.trans hk3 (fun _ _ h => h)⟩
  · obtain ⟨N, rfl⟩ : ∃ N : Nat, n = N := ⟨n.toNat, by omega⟩
    have HG0 := Lib.hid (Good.start (n := N))
    have HN := Lib.hid (dNew_c N (by omega) (by omega) W)
    have HR := Lib.hid (fun W => rnew_c W N (by omega) (by omega))
    clear h0
    go_enter Try.func6, Try.ntmps6
    go_wp2_with (first
      | (go_at_call 21; go_loud (refine Rets.use (few_c HD.out) ?_); rintro v3 w3 ⟨rfl, hl⟩)
      | (go_at_call 31; go_loud (refine Rets.use (HR.out _) ?_); rintro v2 w2 ⟨hk2, x, rfl, rfl, hR2⟩)
      | (go_at_call 30; go_loud (refine Rets.use HN.out ?_); rintro v1 w1 ⟨hk1, g, rfl, hd1⟩))
    have HS := Lib.hid (Duo.start hk1 hd1 hk2 rfl hR2)
    obtain ⟨B, c, rfl, hc1, hc2, _, hin⟩ := id hl
    have HIn := Lib.hid hin
    have hm := Lib.hid (show (l.take 150).length ≤ 150 by rw [List.length_take]; omega)
    generalize l.take 150 = m at *
    have hm := hm.out
    clear hl hin hd1 hk1 hk2 hR2 HN HR HD
    generalize w1.heap.size = x at *
    go_loopw [9] (fun i wr => ∃ (k : Nat) (s : St) (r : RefD), k ≤ m.length ∧ i = .int .i64 k ∧ Duo W wr g x s r (fun _ => False) ∧ Good s r k) (fun i _ => m.length - (intOf i).toNat)
    case atStart => exact ⟨0, _, _, Nat.zero_le _, rfl, HS.out, HG0.out⟩
    case round =>
      obtain ⟨k, s, r, hk, rfl, hd, hg⟩ := hrel
      have HDu := Lib.hid hd
      have HG := Lib.hid hg
      clear HS HG0 hg
      by_cases hlt : k < m.length
      · obtain ⟨b, o, e, hb, vB, vK, c0, c1, c2, c3, rB, lB, rK, lK, wa⟩ := HIn.out k _ (List.getElem?_eq_getElem hlt)
        cases e
        generalize m[k] = d at *
        have hK := hd.1
        have c0 := hK.cell c0 (fun h => h)
        have c1 := hK.cell c1 (fun h => h)
        have c2 := hK.cell c2 (fun h => h)
        have c3 := hK.cell c3 (fun h => h)
        have HCC := Lib.hid (show ∀ j u, [Value.int .i64 d.kind, .int .i64 d.at_, vB, vK][j]? = some u → wr.cell? ⟨b, o + k * 4 + j, none⟩ = some u by
          intro j u hj
          match j, hj with
          | 0, hj => cases hj; exact c0
          | 1, hj => cases hj; exact c1
          | 2, hj => cases hj; exact c2
          | 3, hj => cases hj; exact c3)
        have HDo := Lib.hid (does_c hd HG.out (by omega) d vB vK rB rK wa.2)
        have HGn := Lib.hid (HG.out.next d wa.2)
        generalize does9 s r d = q at *
        clear c0 c1 c2 c3 rB rK hd hK
        go_wp2_with (first
          | (go_at_call 32; go_loud (refine Rets.use HDo.out ?_); rintro v5 w5 ⟨rfl, hd5⟩)
          | ((with_reducible refine at_ 47 rfl ?_); go_must (refine step_load_cells rfl 40 _ rfl b (o + k * 4) [.int .i64 d.kind, .int .i64 d.at_, vB, vK] _ rfl HCC.out Try.underlying40 rfl info_do ?_)))
        go_roundw
        case rel => exact ⟨k + 1, _, _, by omega, by go_num, hd5, HGn.out⟩
        case measure => simp [intOf]; omega
      · obtain rfl : k = m.length := by omega
        have HG := Lib.hid (HG.out.wide (show m.length ≤ 150 + 0 by omega))
        clear hd
        go_wp2
        go_loopw [10] (fun i wr => ∃ (k : Nat) (s : St) (r : RefD), k ≤ m.length ∧ i = .int .i64 k ∧ Duo W wr g x s r (fun _ => False) ∧ Good s r (150 + k)) (fun i _ => m.length - (intOf i).toNat)
        case atStart => exact ⟨0, _, _, Nat.zero_le _, rfl, HDu.out, HG.out⟩
        case round =>
          clear HDu HG
          obtain ⟨k, s2, r2, hk2, rfl, hd, hg⟩ := hrel
          have HDu := Lib.hid hd
          have HG := Lib.hid hg
          clear hg
          by_cases hlt : k < m.length
          · obtain ⟨b, o, e, hb, vB, vK, c0, c1, c2, c3, rB, lB, rK, lK, wa⟩ := HIn.out k _ (List.getElem?_eq_getElem hlt)
            cases e
            generalize m[k] = d at *
            have hK := hd.1
            have c1 := hK.cell c1 (fun h => h)
            have HDo := Lib.hid (does_c hd HG.out (by omega) (look9 d.at_) (.slice none 0 0) (.slice none 0 0) (Rd.nil _ _) (Rd.nil _ _) wa.2)
            rw [does9_look] at HDo
            have HGn := Lib.hid (HG.out.wide (show 150 + k ≤ 150 + (k + 1) by omega))
            clear c0 c2 c3 rB rK hd hK
            go_wp2_with (first
              | (go_at_call 32; go_loud (refine Rets.use HDo.out ?_); rintro v5 w5 ⟨rfl, hd5⟩))
            go_roundw
            case rel => exact ⟨k + 1, _, _, by omega, by go_num, hd5, HGn.out⟩
            case measure => simp [intOf]; omega
          · go_wp2_with (go_at_call 20; go_loud (refine Rets.use (lives09_c _) ?_); rintro v3 w3 ⟨rfl, hk3⟩)
            go_ret
            exact ⟨rfl, hd.1.trans hk3 (fun _ _ h => h)⟩
theorem plays_walk (W : World) (x0 : Int) (w0 : (Lit.int .i64 x0).wf = true) (a1 : Option Addr) (n1 c1 : Nat) (x1 : (Kd.slice KDo).Dat) (H1 : Has W (.slice KDo) [.slice a1 n1 c1] x1) :
    Calls Try.prog 6 #[.int .i64 x0, .slice a1 n1 c1] W (Rets (Yes W)) := plays_in W x0 _ _ (i64_le w0) (Dos.of H1)
end Go.Proofs.Ytmkpdoljaccpaaa
