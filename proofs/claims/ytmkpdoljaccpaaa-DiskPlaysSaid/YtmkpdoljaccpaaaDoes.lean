/-
  DiskPlays: one call at both.
-/
import Derived.Test.YtmkpdoljaccpaaaPlays
import Derived.Deep.DeepCutAuto
import Derived.Deep.CutBlock
namespace Go.Proofs.Ytmkpdoljaccpaaa
open Go.RowKit Go.Canon Go.Mem Go.Args
open Go.Disk (St)
set_option linter.unusedVariables false
set_option linter.unusedSimpArgs false
theorem row_bool9 : (Try.prog.info? 4).map (fun i => (i.zero, i.size, i.bytes)) = some (some (.bool false), 1, 1) := by kernel_rfl
theorem row2_bool9 : (Try.prog.info? 4).map (fun i => (i.zero, i.size)) = some (some (.bool false), 1) := by kernel_rfl
theorem bools_one (l : List Bool) : ∀ v ∈ bools l, v.oneCell' = true := by intro v hv; obtain ⟨b, _, rfl⟩ := List.mem_map.1 hv; rfl
theorem info_byte9 : (Try.prog.info? 5).map (·.size) = some 1 := by kernel_rfl
def DoesPost (W : World) (g x : Nat) (s : St) (r : RefD) : Value → World → Prop := fun v w => v = .bool true ∧ Duo W w g x s r (fun _ => False)
set_option maxHeartbeats 6400000 in
set_option maxRecDepth 100000 in
theorem does_c {W w : World} {g x : Nat} {s : St} {r : RefD} {n : Nat} (h : Duo W w g x s r (fun _ => False)) (hG : Good s r n) (hn : n ≤ 1000) (d : Do9) (vB vK : Value) (hB : Rd W (fun k => k < W.heap.size) vB d.b.length (Disk.bytes8 d.b)) (hK : Rd W (fun k => k < W.heap.size) vK d.keep.length (bools d.keep)) (hat : d.at_ ≤ 9223372036854775807) :
    Calls Try.prog 32 #[.pointer (some ⟨g, 0, none⟩), .pointer (some ⟨x, 0, none⟩), .agg #[.int .i64 d.kind, .int .i64 d.at_, vB, vK]] w (Rets (DoesPost W g x (does9 s r d).1 (does9 s r d).2)) := by
  have HG := Lib.hid hG
  have HN := Lib.hid (hG.next d hat)
  obtain ⟨w1, hw1⟩ : ∃ w1, w1 = w.alloc (Obj.cells #[.int .i64 d.kind, .int .i64 d.at_, vB, vK] 40) := ⟨_, rfl⟩
  have hb : w1.heap[w.heap.size]? = some (.cells #[.int .i64 d.kind, .int .i64 d.at_, vB, vK] 40 (0, 0)) := by rw [hw1]; exact heap_alloc_new w _
  have hk : Keeps (fun _ => False) w w1 := by rw [hw1]; exact (Keeps.refl _ w).alloc _
  have c0 : w1.cell? ⟨w.heap.size, 0, none⟩ = some (.int .i64 d.kind) := cell_of_row w1 _ _ _ _ _ hb
  have c1 : w1.cell? ⟨w.heap.size, 1, none⟩ = some (.int .i64 d.at_) := cell_of_row w1 _ _ _ _ _ hb
  have c2 : w1.cell? ⟨w.heap.size, 2, none⟩ = some vB := cell_of_row w1 _ _ _ _ _ hb
  have c3 : w1.cell? ⟨w.heap.size, 3, none⟩ = some vK := cell_of_row w1 _ _ _ _ _ hb
  have HRB := Lib.hid (hB.kept (h.1.trans hk (fun _ _ h => h)) (fun _ _ h => h))
  have HRK := Lib.hid (hK.kept (h.1.trans hk (fun _ _ h => h)) (fun _ _ h => h))
  obtain ⟨AB, cB, rfl, _⟩ := hB.slice
  obtain ⟨AK, cK, rfl, hcK, _⟩ := hK.slice
  have sW := h.1.size
  have s1 := hk.size
  have HD := Lib.hid h
  have hl1 : (d.b.take 100).length ≤ 100 := by rw [List.length_take]; omega
  have HW := Lib.hid hw1
  have HK := Lib.hid hk
  have lbk : w.heap.size < w1.heap.size := lt_of hb
  clear h hB hK hw1 hb hG hk
  generalize hq : does9 s r d = q at HN ⊢
  have HQ := Lib.hid hq
  clear hq
  obtain ⟨kind, pos, b, keep⟩ := d
  simp only at *
  go_enter Try.func32, Try.ntmps32
  go_upto_block 0 with (first
    | (go_at_call 23; refine Rets.use (copy_c vC (b.take 100) hC (by omega)) ?_; rintro v2 w2 ⟨hO2, hk2⟩)
    | (go_at_call 24; go_loud (rw [← HW.out]; refine Rets.use (cut_c _ b HRB.out 100) ?_; rintro vC w3 ⟨hC, rfl⟩)))
  generalize hbk : w.heap.size = bk at *
  have HBk := Lib.hid hbk
  clear hbk
  have HC := Lib.hid hC
  have HO2 := Lib.hid hO2
  have HK2 := Lib.hid (HK.out.trans hk2 (fun _ _ h => h))
  have c0 := hk2.cell c0 (fun h => h)
  have c1 := hk2.cell c1 (fun h => h)
  have c3 := hk2.cell c3 (fun h => h)
  have HRK := Lib.hid (HRK.out.kept hk2 (fun _ _ h => h))
  have HC := Lib.hid (hC.kept hk2 (fun _ _ h => h))
  have s2 := hk2.size
  clear hC hO2 hk2
  go_cut [9] (fun kv wx => ∃ (Ak : Option Addr) (ck : Nat), kv = .slice Ak (keep.take 200).length ck ∧ OwnRow wx (fun j => w2.heap.size ≤ j) 4 1 (.slice Ak (keep.take 200).length ck) (keep.take 200).length (bools (keep.take 200)) ∧ Keeps (fun _ => False) w2 wx)
  case first =>
    go_wp2
    go_loopw [9, 10] (fun kv iv wr => ∃ k : Nat, k ≤ keep.length ∧ k ≤ 200 ∧ iv = .int .i64 k ∧ OwnRow wr (fun j => w2.heap.size ≤ j) 4 1 kv k (bools (keep.take k)) ∧ Keeps (fun _ => False) w2 wr) (fun _ iv _ => keep.length - (intOf iv).toNat)
    case atStart => exact ⟨0, Nat.zero_le _, Nat.zero_le _, rfl, OwnRow.nil _ _ _ _, Keeps.refl _ w2⟩
    case round =>
      obtain ⟨k, hk1, hk200, rfl, hO, hK⟩ := hrel
      have HOk := Lib.hid hO
      have HKk := Lib.hid hK
      obtain ⟨Ak, ck, rfl, _⟩ := hO.slice
      have c3 := hK.cell c3 (fun h => h)
      have szk := hK.size
      clear hO hK
      by_cases hlt : k < keep.length ∧ k < 200
      · obtain ⟨hl, hl2⟩ := hlt
        obtain ⟨bb, ob, cb, e1, _, e2, e3⟩ := HRK.out.at (by intro e; have := congrArg List.length e; rw [bools, List.length_map, List.length_nil] at this; omega)
        cases e1
        have ckk : w2.cell? ⟨bb, ob + k, none⟩ = some (.bool keep[k]) := e3 k _ (by simp [bools, hl])
        have ckk := HKk.out.cell ckk (fun h => h)
        have HT := Lib.hid (show bools (keep.take (k + 1)) = bools (keep.take k) ++ [.bool keep[k]] by unfold bools; rw [List.take_add_one, List.getElem?_eq_getElem hl, List.map_append]; rfl)
        clear e3
        generalize keep[k] = kb at *
        have hd : (k : Int) < 200 := by omega
        go_wp2_with (first
          | ((with_reducible refine at_ 40 rfl ?_); go_must (refine step_append_rd (ok2 := fun j => wr.heap.size ≤ j) rfl _ _ _ rfl 4 _ 1 1 Try.underlying23 row_bool9 rfl (by decide) (.slice Ak k ck) k (bools (keep.take k)) rfl (HOk.out.kept hk7 (fun _ _ h => h)) _ 1 [.bool kb] rfl (lit_rd rfl hb7 (Nat.le_refl _)) rfl (by intro y hy; simp at hy; subst hy; rfl) (by simp only [maxLen]; omega) (by omega) ?_); intro v8 w8 hO8 hk8)
          | ((with_reducible refine at_ 39 rfl ?_); go_must (refine step_lit rfl 23 _ 1 rfl [.bool kb] rfl rfl (by decide) 4 _ 1 Try.underlying23 row2_bool9 (by decide) (by decide) (by intro v hv; rw [List.mem_singleton] at hv; subst hv; rfl) ?_); intro w7 hb7 hk7 hs7))
        have s7 := hk7.size
        have s8 := hk8.size
        go_roundw
        case rel => exact ⟨k + 1, by omega, by omega, by go_num, by rw [HT.out]; exact hO8.mono (fun j _ h => by rcases h with h | h; exact h; omega), (HKk.out.trans hk7 (fun _ _ h => h)).trans hk8 (fun j hj h => by have := HOk.out.2 j h; omega)⟩
        case measure => simp [intOf]; omega
      · have HT := Lib.hid (show keep.take k = keep.take 200 by
          by_cases h1 : k < keep.length
          · obtain rfl : k = 200 := by omega
            rfl
          · rw [List.take_of_length_le (by omega), List.take_of_length_le (by omega)])
        have hkl : k = (keep.take 200).length := by rw [← HT.out, List.length_take]; omega
        have HOk := Lib.hid (show OwnRow wr (fun j => w2.heap.size ≤ j) 4 1 (.slice Ak k ck) (keep.take 200).length (bools (keep.take 200)) by rw [← hkl, ← HT.out]; exact HOk.out)
        have HKl := Lib.hid hkl
        clear HT hkl
        by_cases h1 : k < keep.length
        · have hd : ¬ (k : Int) < 200 := by omega
          clear hlt
          go_wp2
          go_meet
          exact ⟨Ak, ck, by rw [← HKl.out], by have := HOk.out; rw [← HKl.out] at this ⊢; exact this, HKk.out⟩
        · go_wp2
          go_meet
          exact ⟨Ak, ck, by rw [← HKl.out], by have := HOk.out; rw [← HKl.out] at this ⊢; exact this, HKk.out⟩
  case rest =>
    obtain ⟨Ak, ck, rfl, hOk, hKk⟩ := hcut
    have HOk := Lib.hid hOk
    have HKk := Lib.hid hKk
    have c0 := hKk.cell c0 (fun h => h)
    have c1 := hKk.cell c1 (fun h => h)
    have szk := hKk.size
    have HDu := Lib.hid (HD.out.more (F' := fun j => bk ≤ j ∧ j < wc.heap.size) (HK2.out.trans HKk.out (fun _ _ h => h)) (fun j h => by have := HBk.out; omega))
    have HO2 := Lib.hid (HO2.out.kept HKk.out (fun _ _ h => h))
    have HC := Lib.hid (HC.out.kept HKk.out (fun _ _ h => h))
    have hkl2 : (keep.take 200).length ≤ 200 := by rw [List.length_take]; omega
    clear hOk hKk HKk HK2 HRK HD HRB HK HW HBk c3
    generalize hkp : keep.take 200 = kp at *
    have HKP := Lib.hid hkp
    clear hkp
    generalize hkn : kp.length = kn at *
    have HKN := Lib.hid hkn
    clear hkn
    rename World => wr
    go_upto_block 2 with (fail)
    go_cut [] (fun wx => ∃ s6 r6, q = (s6, r6) ∧ Good s6 r6 (n + 1) ∧ Duo W wx g x s6 r6 (fun _ => False) ∧ wx.cell? ⟨bk, 1, none⟩ = some (.int .i64 pos))
    case first =>
      have few := HG.out.few
      have fewl := HG.out.len
      have HLf := Lib.hid HG.out.left
      have HF1 := Lib.hid (show bk ≤ bk ∧ bk < wr.heap.size from ⟨Nat.le_refl _, by omega⟩)
      by_cases k0 : kind = 0
      · have HE := Lib.hid (HG.out.write pos (b.take 100)).1
        have HNn := Lib.hid (HG.out.write pos (b.take 100)).2
        have HQn := Lib.hid (show q = ((s.write pos (b.take 100)).2, (r.write pos (b.take 100)).2) by rw [← HQ.out, does9, if_pos k0])
        subst k0
        have HOm := Lib.hid (HO2.out.mono (ok' := fun j => bk < j ∧ j < wr.heap.size) (fun j h h' => ⟨by omega, h⟩))
        clear HG HO2 HOk
        generalize b.take 100 = bb at *
        go_wp2
        refine Canon.region [4] [(⟨bk, 1, none⟩, .int .i64 pos)] [(7, 0)] (.hold [0, 1, 3, 5, 6, 8, 2, 7] (.loud 4 (.seg [9, 10] .stop))) (by kernel_rfl) (by kernel_rfl) (by repeat (first | (with_reducible exact Safe.body) | (with_reducible apply Safe.then) | (with_reducible apply Safe.inBlock) | (dsimp +zetaDelta only))) ?_
        simp only [Canon.pick, Canon.wpPlan, List.getElem?_toArray, List.getElem?_cons_zero, List.getElem?_cons_succ]
        have KD : Keeps (fun _ => False) wr wr.drew := (Keeps.refl _ wr).drew
        have c1 := KD.cell c1 (fun h => h)
        have HDu := Lib.hid (HDu.out.kept KD (fun _ h => h.elim))
        have HOm := Lib.hid (HOm.out.kept KD (fun _ _ h => h))
        have HC := Lib.hid (HC.out.kept KD (fun _ _ h => h))
        clear KD
        generalize wr.drew = wz at *
        obtain ⟨h0, P, R, T, hD, hR, sP, sx, sR, sT, sF⟩ := HDu.out
        have HDs := Lib.hid (dWrite_c hD pos v2 bb HOm.out.rd (fun j h => (sF j ⟨by omega, h.2⟩).2.2.1) (by omega) (by omega))
        have HRm := Lib.hid hR
        have HnW := Lib.hid (show ∀ j, j < W.heap.size → ¬ P j from fun j hj h => by have := (sP j h).1; omega)
        have HDp := Lib.hid (fun v' w' (h : DPost wz P g (.int .i64 (s.write pos bb).1) (s.write pos bb).2 v' w') => (show v' = .int .i64 (s.write pos bb).1 ∧ Duo W w' g x (s.write pos bb).2 r (fun j => bk ≤ j ∧ j < wr.heap.size) ∧ Keeps P wz w' ∧ ∀ k, (bk ≤ k ∧ k < wr.heap.size) → ¬ P k from ⟨h.1, (Duo.post h0 HRm.out sP sx sR sT sF h).2.1, h.2.2, fun k hk => (sF k hk).2.2.1⟩))
        clear hR hD HDu h0 sP sx sR sT sF
        refine ⟨fun p hp => by rw [List.mem_singleton] at hp; subst hp; exact c1, ?_⟩
        go_wp2_with (go_at_call 25; go_loud (refine Rets.use HDs.out ?_); go_loud (intro v5 w5 hp5; obtain ⟨rfl, hd5, hk5, hn5⟩ := HDp.out v5 w5 hp5; rw [HE.out]; have c15 := hk5.cell c1 (hn5 bk HF1.out)))
        refine ⟨fun p hp => by rw [List.mem_singleton] at hp; subst hp; exact c15, ?_⟩
        have HC := Lib.hid (HC.out.kept hk5 HnW.out)
        have HOm := Lib.hid (HOm.out.kept hk5 (fun j h => hn5 j ⟨by omega, h.2⟩))
        obtain ⟨h05, P5, R5, T5, hD5, hR5, sP5, sx5, sR5, sT5, sF5⟩ := id hd5
        go_wp2_with (go_at_call 49; go_loud (refine Rets.use (rwrite_c hR5 (fun k h => (sR5 k h).2) (fun k h => (sT5 k h).2) (by omega) HLf.out pos vC bb HC.out (fun j h => by omega) (by omega)) ?_); intro v6 w6 hp6; obtain ⟨rfl, hd6, S6, hk6, hn6⟩ := Duo.rpost h05 hD5 sP5 sx5 sR5 sT5 sF5 hp6; have c1 := hk6.cell c15 (hn6 bk HF1.out))
        refine ⟨by rfl, ⟨fun _ => rfl, trivial⟩, ?_⟩
        have HD6 := Lib.hid hd6
        have HOm := Lib.hid (HOm.out.kept hk6 (fun j h => hn6 j ⟨by omega, h.2⟩))
        clear hd5 hd6 hp5 hp6 hk5 hn5 hk6 hn6 h05 hD5 hR5 sP5 sx5 sR5 sT5 sF5 HDs HRm HE HLf HC HnW HDp
        generalize (r.write pos bb).2 = r6 at *
        generalize (s.write pos bb).2 = s6 at *
        have HC16 := Lib.hid c1
        clear c1
        by_cases hn0 : 0 < bb.length
        · obtain ⟨tb, cap, cur0, rfl, htb, hcb, hn1, hn2, hn3, hn4⟩ := HOm.out.form hn0
          have HCur := Lib.hid (show ∃ cur : List Value, w6.heap[tb]? = some (.cells cur.toArray 5 (0, 0)) ∧ bb.length ≤ cur.length ∧ ∀ j, j < bb.length → ∃ y, cur[j]? = some (.int .u8 y) from ⟨cur0.toList, hcb, by simp; omega, fun j hj => by
            have h9 := congrArg (fun l => l[j]?) hn4
            rw [List.getElem?_take_of_lt (by omega)] at h9
            exact ⟨bb[j], by rw [h9]; simp [Disk.bytes8, hj]⟩⟩)
          clear hcb hn3 hn4 HOm
          go_wp2
          go_loopw [11] (fun i wr2 => ∃ qq : Nat, qq ≤ bb.length ∧ i = .int .i64 qq ∧ Keeps (fun j => j = tb) w6 wr2 ∧ ∃ cur : List Value, wr2.heap[tb]? = some (.cells cur.toArray 5 (0, 0)) ∧ bb.length ≤ cur.length ∧ ∀ j, j < bb.length → ∃ y, cur[j]? = some (.int .u8 y)) (fun i _ => bb.length - (intOf i).toNat)
          case atStart => exact ⟨0, Nat.zero_le _, rfl, Keeps.refl _ _, HCur.out⟩
          case round =>
            obtain ⟨qq, hq, rfl, hKq, cur2, hc2, hl2, hy2⟩ := hrel
            have HKq := Lib.hid hKq
            have HC2 := Lib.hid hc2
            have HY2 := Lib.hid hy2
            clear hKq hc2 HCur hy2
            by_cases hlq : qq < bb.length
            · obtain ⟨y, hy⟩ := HY2.out qq hlq
              rename World => wq
              have cy : wq.cell? ⟨tb, qq, none⟩ = some (.int .u8 y) := by rw [cell_of_row wq _ _ _ _ _ HC2.out]; simpa using hy
              clear hy
              go_wp2_with ((with_reducible refine at_store 5 (.tmp 69) (.tmp 68) rfl ?_); go_must (refine step_store1 rfl _ _ _ rfl tb qq (.int .u8 (IntKind.wrap .u8 (y + 1))) _ _ rfl rfl rfl HC2.out (by omega) info_byte9 ?_); intro w7 hb7 hk7 hs7)
              go_roundw
              case rel => exact ⟨qq + 1, by omega, by go_num, HKq.out.trans hk7 (fun j _ e => e), _, hb7, by rw [List.length_set]; exact hl2, fun j hj => by
                by_cases hjq : qq = j
                · subst hjq; exact ⟨_, List.getElem?_set_self (by omega)⟩
                · rw [List.getElem?_set_ne hjq]; exact HY2.out j hj⟩
              case measure => simp [intOf]; omega
            · go_wp2
              go_meet
              exact ⟨_, _, HQn.out, HNn.out, (HD6.out.kept HKq.out (fun j h => .inl (by subst h; exact ⟨by omega, htb.2⟩))).thin (fun _ h => h.elim), HKq.out.cell HC16.out (by show ¬ bk = tb; omega)⟩
        · obtain ⟨A3, c3', rfl, _⟩ := HOm.out.slice
          have h00 : bb.length = 0 := by omega
          go_wp2
          go_loopw [11] (fun i wr2 => i = .int .i64 0 ∧ wr2 = w6) (fun i _ => 0)
          case atStart => exact ⟨rfl, rfl⟩
          case round =>
            obtain ⟨rfl, rfl⟩ := hrel
            go_wp2
            go_meet
            exact ⟨_, _, HQn.out, HNn.out, HD6.out.thin (fun _ h => h.elim), HC16.out⟩
      · by_cases k1 : kind = 1
        · have HE := Lib.hid HG.out.sync.1
          have HNn := Lib.hid (show Good s.sync.2 r.sync.2 (n + 1) from HG.out.sync.2)
          have HQn := Lib.hid (show q = (s.sync.2, r.sync.2) by rw [← HQ.out, does9, if_neg k0, if_pos k1])
          obtain ⟨h0, P, R, T, hD, hR, sP, sx, sR, sT, sF⟩ := HDu.out
          have HDs := Lib.hid (dSync_c hD (by omega))
          have HRm := Lib.hid hR
          subst k1
          clear hR hD k0 HG HDu HOk HO2
          generalize s.sync.2 = s6 at *
          go_wp2_with (first
            | (go_at_call 50; go_loud (refine Rets.use (rsync_c hR5 (fun k h => (sR5 k h).2) (fun k h => (sT5 k h).2) (by omega) HLf.out) ?_); intro v6 w6 hp6; obtain ⟨rfl, hd6, S6, hk6, hn6⟩ := Duo.rpost h05 hD5 sP5 sx5 sR5 sT5 sF5 hp6; have c1 := hk6.cell c15 (hn6 bk HF1.out))
            | (go_at_call 14; go_loud (refine Rets.use HDs.out ?_); intro v5 w5 hp5; obtain ⟨rfl, hd5, S5, hk5, hn5⟩ := Duo.post h0 HRm.out sP sx sR sT sF hp5; rw [HE.out]; have c15 := hk5.cell c1 (hn5 bk HF1.out); obtain ⟨h05, P5, R5, T5, hD5, hR5, sP5, sx5, sR5, sT5, sF5⟩ := id hd5))
          go_meet
          exact ⟨_, _, HQn.out, HNn.out, hd6.thin (fun _ h => h.elim), c1⟩
        · by_cases k2 : kind = 2
          · have HE := Lib.hid (HG.out.arm pos hat).1
            have HNn := Lib.hid (HG.out.arm pos hat).2
            have HQn := Lib.hid (show q = ((s.arm pos).2, (r.arm pos).2) by rw [← HQ.out, does9, if_neg k0, if_neg k1, if_pos k2])
            subst k2
            clear k0 k1 HG HOk HO2
            go_wp2
            refine Canon.region [3] [(⟨bk, 1, none⟩, .int .i64 pos)] [(6, 0)] (.hold [0, 1, 4, 5, 2, 6] (.loud 3 (.seg [7, 8] .stop))) (by kernel_rfl) (by kernel_rfl) (by repeat (first | (with_reducible exact Safe.body) | (with_reducible apply Safe.then) | (with_reducible apply Safe.inBlock) | (dsimp +zetaDelta only))) ?_
            simp only [Canon.pick, Canon.wpPlan, List.getElem?_toArray, List.getElem?_cons_zero, List.getElem?_cons_succ]
            have KD : Keeps (fun _ => False) wr wr.drew := (Keeps.refl _ wr).drew
            have c1 := KD.cell c1 (fun h => h)
            have HDu := Lib.hid (HDu.out.kept KD (fun _ h => h.elim))
            clear KD
            generalize wr.drew = wz at *
            obtain ⟨h0, P, R, T, hD, hR, sP, sx, sR, sT, sF⟩ := HDu.out
            have HDs := Lib.hid (dArm_c hD pos hat)
            have HRm := Lib.hid hR
            clear hR hD HDu
            refine ⟨fun p hp => by rw [List.mem_singleton] at hp; subst hp; exact c1, ?_⟩
            go_wp2_with (go_at_call 27; go_loud (refine Rets.use HDs.out ?_); intro v5 w5 hp5; obtain ⟨rfl, hd5, S5, hk5, hn5⟩ := Duo.post h0 HRm.out sP sx sR sT sF hp5; rw [HE.out]; have c15 := hk5.cell c1 (hn5 bk HF1.out))
            refine ⟨fun p hp => by rw [List.mem_singleton] at hp; subst hp; exact c15, ?_⟩
            obtain ⟨h05, P5, R5, T5, hD5, hR5, sP5, sx5, sR5, sT5, sF5⟩ := id hd5
            go_wp2_with (go_at_call 51; go_loud (refine Rets.use (rarm_c hR5 pos) ?_); intro v6 w6 hp6; obtain ⟨rfl, hd6, S6, hk6, hn6⟩ := Duo.rpost h05 hD5 sP5 sx5 sR5 sT5 sF5 (hp6.rpost (fun k h => (sR5 k h).2) (fun k h => (sT5 k h).2)); have c1 := hk6.cell c15 (hn6 bk HF1.out))
            refine ⟨by rfl, ⟨fun _ => rfl, trivial⟩, ?_⟩
            go_wp2
            go_meet
            exact ⟨_, _, HQn.out, HNn.out, hd6.thin (fun _ h => h.elim), c1⟩
          · by_cases k3 : kind = 3
            · have HNn := Lib.hid (HG.out.crash kp)
              have HQn := Lib.hid (show q = (s.crash kp, r.crash kp) by rw [← HQ.out, does9, if_neg k0, if_neg k1, if_neg k2, if_pos k3, HKP.out])
              obtain ⟨h0, P, R, T, hD, hR, sP, sx, sR, sT, sF⟩ := HDu.out
              have HOb := Lib.hid (show Rd wr (fun j => bk ≤ j ∧ j < wr.heap.size) (.slice Ak kn ck) kp.length (bools kp) by rw [HKN.out]; exact (HOk.out.mono (ok' := fun j => bk ≤ j ∧ j < wr.heap.size) (fun j h h' => ⟨by omega, h⟩)).rd)
              have hkpl : kp.length ≤ 1000000 := by rw [HKN.out]; omega
              have HDs := Lib.hid (dCrash_c hD (by omega) _ kp HOb.out (fun j h => (sF j h).2.2.1) (by omega))
              have HRm := Lib.hid hR
              subst k3
              clear hR hD k0 k1 k2 HG HDu HOk HO2
              generalize s.crash kp = s6 at *
              go_wp2_with (first
                | (go_at_call 52; go_loud (refine Rets.use (rcrash_c hR5 (fun k h => (sT5 k h).2) (by omega) _ kp (HOb.out.kept hk5 hn5) hkpl) ?_); intro v6 w6 hp6; obtain ⟨_, hd6, S6, hk6, hn6⟩ := Duo.rpost h05 hD5 sP5 sx5 sR5 sT5 sF5 (hp6.rpost (fun k h => (sT5 k h).2)); have c1 := hk6.cell c15 (hn6 bk HF1.out))
                | (go_at_call 17; go_loud (refine Rets.use HDs.out ?_); intro v5 w5 hp5; obtain ⟨rfl, hd5, S5, hk5, hn5⟩ := Duo.post h0 HRm.out sP sx sR sT sF hp5; have c15 := hk5.cell c1 (hn5 bk HF1.out); obtain ⟨h05, P5, R5, T5, hD5, hR5, sP5, sx5, sR5, sT5, sF5⟩ := id hd5))
              go_meet
              exact ⟨_, _, HQn.out, HNn.out, hd6.thin (fun _ h => h.elim), c1⟩
            · have HNn := Lib.hid (show Good s r (n + 1) from ⟨HG.out.sim, by omega, by omega, HG.out.b64, HG.out.left⟩)
              have HQn := Lib.hid (show q = (s, r) by rw [← HQ.out, does9, if_neg k0, if_neg k1, if_neg k2, if_neg k3])
              clear HG HOk HO2 HLf
              go_wp2
              go_meet
              exact ⟨_, _, HQn.out, HNn.out, HDu.out.thin (fun _ h => h.elim), c1⟩
    case rest =>
      obtain ⟨s6, r6, hq6, hg6, hd6, c1⟩ := hcut
      rename World => w6
      have HQ := Lib.hid hq6
      have HN := Lib.hid hg6
      have HD6 := Lib.hid hd6
      clear hq6 hg6 hd6 HO2 HC HOk
      have HRe := Lib.hid (HN.out.read pos)
      have HOp := Lib.hid (show (r6.opens : Int) = (s6.opn.length : Int) by have := HN.out.opens; rw [this])
      have HOf := Lib.hid HN.out.off
      have HNu := Lib.hid HN.out.num
      have H64 := Lib.hid (fun a => Nat.le_trans (Nat.le_of_eq (bytesOf_64 HN.out.b64 a)) (show 64 ≤ 1000 by decide))
      have hl6 : r6.l.length ≤ 1000000 := by have := HN.out.len; omega
      obtain ⟨h0, P, R, T, hD, hR, sP, sx, sR, sT, sF⟩ := HD6.out
      obtain ⟨bs, co, hbc⟩ : ∃ bs co, r6.read pos = (bs, co) := ⟨_, _, rfl⟩
      have HRD := Lib.hid (fun w (T : Nat → Prop) (h : RefMem w x R T r6) => (show Calls Try.prog 53 #[.pointer (some ⟨x, 0, none⟩), .int .i64 pos] w (Rets (RefRead w (bs, co))) by rw [← hbc]; exact rread_c h hl6 H64.out pos))
      have HDD := Lib.hid (dRead_c hD pos)
      have hpost : ∀ v w', ReadPost w6 s6 pos v w' → Keeps (fun _ => False) w6 w' ∧ ((co ≠ 0 ∧ bs = [] ∧ v = .tuple #[.slice none 0 0, .int .i64 co]) ∨ (co = 0 ∧ bs.length = 64 ∧ ∃ b, w6.heap.size ≤ b ∧ v = .tuple #[.slice (some ⟨b, 0, none⟩) 64 64, .int .i64 0] ∧ w'.heap[b]? = some (.cells (Disk.bytes8 bs).toArray 90 (0, 0)))) := by
        intro v w' h
        unfold ReadPost at h
        rw [HRe.out, hbc] at h
        exact h
      have HPo := Lib.hid hpost
      have HMem := Lib.hid hR
      clear hpost hbc HRe hR hD sP sR sT sF h0 H64
      by_cases hco : co = 0
      · subst hco
        go_wp2_with (first
          | (go_at_call 26; go_loud (refine Rets.use (same_self9 (Rd.kept (S := fun _ => False) HP7.out hk8 (fun _ _ h => h)) hr8 (by omega)) ?_); rintro v9 w9 ⟨rfl, hk9⟩)
          | (go_at_call 53; go_loud (refine Rets.use (HRD.out _ _ (HMem.out.kept hk7 (fun h => h) (fun _ _ h => h) (fun _ _ h => h))) ?_); rintro v8 w8 ⟨hk8, u8, rfl, hr8⟩)
          | (go_at_call 29; go_loud (refine Rets.use HDD.out ?_); intro v7 w7 hp7; obtain ⟨hk7, hp7⟩ := HPo.out _ _ hp7; have c1 := hk7.cell c1 (fun h => h); obtain ⟨_, l64, bp, hbp, rfl, hB7⟩ := hp7.resolve_left (fun h => h.1 rfl); have HP7 := Lib.hid (show Rd w7 (fun k => w6.heap.size ≤ k) (.slice (some ⟨bp, 0, none⟩) 64 64) bs.length (Disk.bytes8 bs) from ⟨_, _, by rw [l64], Nat.le_of_eq l64, fun h => (by cases h), .inr ⟨bp, 0, rfl, hbp, fun j u hu => by rw [cell_of_row w7 _ _ _ _ _ hB7, Nat.zero_add]; simpa using hu⟩⟩)))
        have HB9 := Lib.hid ((hk8.trans hk9 (fun _ _ h => h)).heap hB7 (fun h => h))
        have HK9 := Lib.hid (((hk7.trans hk8 (fun _ _ h => h)).trans hk9 (fun _ _ h => h)).mono (S' := fun j => w6.heap.size ≤ j) (fun _ _ h => h.elim))
        clear hk7 hk8 hk9 hB7 hr8 HP7 HRD HDD HPo
        go_loopw [16] (fun iv wr => ∃ q : Nat, q ≤ 64 ∧ iv = .int .i64 q ∧ Keeps (fun j => w6.heap.size ≤ j) w6 wr ∧ ∃ cur : List Value, wr.heap[bp]? = some (.cells cur.toArray 90 (0, 0)) ∧ 64 ≤ cur.length) (fun iv _ => 64 - (intOf iv).toNat)
        case atStart => exact ⟨0, Nat.zero_le _, rfl, HK9.out, _, HB9.out, by rw [Disk.bytes8_len, l64]; exact Nat.le_refl _⟩
        case round =>
          obtain ⟨q, hq, rfl, hK, cur, hcur, hlc⟩ := hrel
          have HKq := Lib.hid hK
          have HCq := Lib.hid hcur
          clear hK hcur HB9 HK9
          by_cases hlt : q < 64
          · go_wp2_with ((with_reducible refine at_store 5 (.tmp 128) (.const (.int .u8 99)) rfl ?_); go_must (refine step_store1 rfl _ _ _ rfl bp q (.int .u8 99) _ _ rfl rfl rfl HCq.out (by omega) info_byte9 ?_); intro w10 hb10 hk10 hs10)
            go_roundw
            case rel => exact ⟨q + 1, by omega, by go_num, HKq.out.trans hk10 (fun j _ e => by subst e; exact hbp), _, hb10, by rw [List.length_set]; exact hlc⟩
            case measure => simp [intOf]; omega
          · obtain rfl : q = 64 := by omega
            have HDz := Lib.hid (HD6.out.kept HKq.out (fun k h => .inr h))
            clear HD6 HKq HMem
            obtain ⟨h0, P, R, T, hD, hR, sP, sx, sR, sT, sF⟩ := id HDz.out
            obtain ⟨vl, csl, hbx, _, _, _, _, _⟩ := id hR
            have KD := (Keeps.refl (fun _ => False) wr).drew
            have cx0 : wr.drew.cell? ⟨x, 0, none⟩ = some (.int .i64 r6.n) := KD.cell ((cell_of_row wr x 0 _ _ _ hbx).trans rfl) (fun h => h)
            have cx3 : wr.drew.cell? ⟨x, 3, none⟩ = some (.bool r6.power) := KD.cell ((cell_of_row wr x 3 _ _ _ hbx).trans rfl) (fun h => h)
            have HDD := Lib.hid (hD.kept KD (fun _ _ h => h))
            have HMm := Lib.hid (hR.kept KD (fun h => h) (fun _ _ h => h) (fun _ _ h => h))
            have HDf := Lib.hid ((HDz.out.kept KD (fun _ h => h.elim)).thin (F' := fun _ => False) (fun _ h => h.elim))
            rw [HNu.out] at cx0
            clear hD hR sP sR sT sF h0 hbx KD HDz
            go_wp2
            refine Canon.region [7, 17] [(⟨x, 3, none⟩, .bool r6.power), (⟨x, 0, none⟩, .int .i64 s6.now.length)] [(11, 0), (21, 1)] (.seg [0, 2, 1, 3, 4, 5, 6, 8, 9, 10] (.hold [11, 12] (.loud 7 (.hold [13, 14, 15, 16, 18, 19, 20, 21] (.loud 17 (.seg [22, 23, 24] .stop)))))) (by kernel_rfl) (by kernel_rfl) (by repeat (first | (with_reducible exact Safe.body) | (with_reducible apply Safe.then) | (with_reducible apply Safe.inBlock) | (dsimp +zetaDelta only))) ?_
            simp only [Canon.pick, Canon.wpPlan, List.getElem?_toArray, List.getElem?_cons_zero, List.getElem?_cons_succ]
            generalize wr.drew = wz at *
            have HX := Lib.hid (show ∀ p ∈ [((⟨x, 3, none⟩ : Addr), Value.bool r6.power), (⟨x, 0, none⟩, .int .i64 s6.now.length)], wz.cell? p.1 = some p.2 by
              intro p hp
              simp only [List.mem_cons, List.not_mem_nil, or_false] at hp
              rcases hp with rfl | rfl
              · exact cx3
              · exact cx0)
            go_wp2_with (first
              | (go_at_call 54; go_loud (refine Rets.use (ropen_c HMm.out hl6) ?_); rintro v10 w10 ⟨rfl, rfl⟩; rw [HOp.out])
              | (go_at_call 15; go_loud (refine Rets.use (dOpen_c HDD.out) ?_); rintro v10 w10 ⟨rfl, rfl⟩))
            refine ⟨HX.out, ?_⟩
            go_wp2_with (go_at_call 28; go_loud (refine Rets.use (dOff_c HDD.out) ?_); rintro v10 w10 ⟨rfl, rfl⟩; rw [HOf.out])
            refine ⟨HX.out, ?_⟩
            go_wp2
            refine ⟨HX.out, ?_⟩
            go_wp2_with (go_at_call 33; go_loud (refine Rets.use (dSectors_c HDD.out) ?_); rintro v10 w10 ⟨rfl, rfl⟩)
            refine ⟨HX.out, ?_⟩
            go_wp2
            refine ⟨by rfl, ⟨fun _ => rfl, ⟨fun _ => rfl, trivial⟩⟩, ?_⟩
            go_wp2
            go_ret
            exact ⟨rfl, by rw [HQ.out]; exact HDf.out⟩
      · go_wp2_with (first
          | (go_at_call 26; go_loud (refine Rets.use (same_self9 (Rd.nil _ (fun _ => False)) hr8 (by simp)) ?_); rintro v9 w9 ⟨rfl, hk9⟩)
          | (go_at_call 53; go_loud (refine Rets.use (HRD.out _ _ (HMem.out.kept hk7 (fun h => h) (fun _ _ h => h) (fun _ _ h => h))) ?_); rintro v8 w8 ⟨hk8, u8, rfl, hr8⟩)
          | (go_at_call 29; go_loud (refine Rets.use HDD.out ?_); intro v7 w7 hp7; obtain ⟨hk7, hp7⟩ := HPo.out _ _ hp7; have c1 := hk7.cell c1 (fun h => h); obtain ⟨_, rfl, rfl⟩ := hp7.resolve_right (fun h => hco h.1)))
        have HK9 := Lib.hid (((hk7.trans hk8 (fun _ _ h => h)).trans hk9 (fun _ _ h => h)).mono (S' := fun j => w6.heap.size ≤ j) (fun _ _ h => h.elim))
        clear hk7 hk8 hk9 hr8 HRD HDD HPo
        go_loopw [16] (fun iv wr => iv = .int .i64 0 ∧ Keeps (fun j => w6.heap.size ≤ j) w6 wr) (fun iv _ => 0)
        case atStart => exact ⟨rfl, HK9.out⟩
        case round =>
          obtain ⟨rfl, hK⟩ := hrel
          have HKq := Lib.hid hK
          clear hK HK9
          have HDz := Lib.hid (HD6.out.kept HKq.out (fun k h => .inr h))
          clear HD6 HKq HMem
          obtain ⟨h0, P, R, T, hD, hR, sP, sx, sR, sT, sF⟩ := id HDz.out
          obtain ⟨vl, csl, hbx, _, _, _, _, _⟩ := id hR
          have KD := (Keeps.refl (fun _ => False) wr).drew
          have cx0 : wr.drew.cell? ⟨x, 0, none⟩ = some (.int .i64 r6.n) := KD.cell ((cell_of_row wr x 0 _ _ _ hbx).trans rfl) (fun h => h)
          have cx3 : wr.drew.cell? ⟨x, 3, none⟩ = some (.bool r6.power) := KD.cell ((cell_of_row wr x 3 _ _ _ hbx).trans rfl) (fun h => h)
          have HDD := Lib.hid (hD.kept KD (fun _ _ h => h))
          have HMm := Lib.hid (hR.kept KD (fun h => h) (fun _ _ h => h) (fun _ _ h => h))
          have HDf := Lib.hid ((HDz.out.kept KD (fun _ h => h.elim)).thin (F' := fun _ => False) (fun _ h => h.elim))
          rw [HNu.out] at cx0
          clear hD hR sP sR sT sF h0 hbx KD HDz
          go_wp2
          refine Canon.region [7, 17] [(⟨x, 3, none⟩, .bool r6.power), (⟨x, 0, none⟩, .int .i64 s6.now.length)] [(11, 0), (21, 1)] (.seg [0, 2, 1, 3, 4, 5, 6, 8, 9, 10] (.hold [11, 12] (.loud 7 (.hold [13, 14, 15, 16, 18, 19, 20, 21] (.loud 17 (.seg [22, 23, 24] .stop)))))) (by kernel_rfl) (by kernel_rfl) (by repeat (first | (with_reducible exact Safe.body) | (with_reducible apply Safe.then) | (with_reducible apply Safe.inBlock) | (dsimp +zetaDelta only))) ?_
          simp only [Canon.pick, Canon.wpPlan, List.getElem?_toArray, List.getElem?_cons_zero, List.getElem?_cons_succ]
          generalize wr.drew = wz at *
          have HX := Lib.hid (show ∀ p ∈ [((⟨x, 3, none⟩ : Addr), Value.bool r6.power), (⟨x, 0, none⟩, .int .i64 s6.now.length)], wz.cell? p.1 = some p.2 by
            intro p hp
            simp only [List.mem_cons, List.not_mem_nil, or_false] at hp
            rcases hp with rfl | rfl
            · exact cx3
            · exact cx0)
          go_wp2_with (first
            | (go_at_call 54; go_loud (refine Rets.use (ropen_c HMm.out hl6) ?_); rintro v10 w10 ⟨rfl, rfl⟩; rw [HOp.out])
            | (go_at_call 15; go_loud (refine Rets.use (dOpen_c HDD.out) ?_); rintro v10 w10 ⟨rfl, rfl⟩))
          refine ⟨HX.out, ?_⟩
          go_wp2_with (go_at_call 28; go_loud (refine Rets.use (dOff_c HDD.out) ?_); rintro v10 w10 ⟨rfl, rfl⟩; rw [HOf.out])
          refine ⟨HX.out, ?_⟩
          go_wp2
          refine ⟨HX.out, ?_⟩
          go_wp2_with (go_at_call 33; go_loud (refine Rets.use (dSectors_c HDD.out) ?_); rintro v10 w10 ⟨rfl, rfl⟩)
          refine ⟨HX.out, ?_⟩
          go_wp2
          refine ⟨by rfl, ⟨fun _ => rfl, ⟨fun _ => rfl, trivial⟩⟩, ?_⟩
          go_wp2
          go_ret
          exact ⟨rfl, by rw [HQ.out]; exact HDf.out⟩
end Go.Proofs.Ytmkpdoljaccpaaa
