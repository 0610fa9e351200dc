/-
  A log: a frame is laid.
-/
import Derived.Test.YtbiohidelhfaiaaWalQ
namespace Go.Proofs.Ytbiohidelhfaiaa
open Go.RowKit Go.Canon Go.Mem Go.Args
open Go.Disk (St)
set_option linter.unusedVariables false
set_option linter.unusedSimpArgs false
def layGo (f : List Int) (next : Nat) : Nat → Nat → St → Int × St
  | 0, _, s => (0, s)
  | n + 1, i, s => if (s.write ((next + i : Nat) : Int) (secF f i)).1 = 0 then layGo f next n (i + 1) (s.write ((next + i : Nat) : Int) (secF f i)).2 else s.write ((next + i : Nat) : Int) (secF f i)
def layEnd (s : St) (next : Nat) (f : List Int) : Int × St := if (s.write next (f.take 64)).1 = 0 then (s.write next (f.take 64)).2.sync else s.write next (f.take 64)
def layMid (s : St) (next : Nat) (f : List Int) : Int × St := if 64 < f.length then (if s.sync.1 = 0 then layEnd s.sync.2 next f else s.sync) else layEnd s next f
def layP (s : St) (next : Nat) (f : List Int) : Int × St := if (layGo f next (spanF f.length - 1) 1 s).1 = 0 then layMid (layGo f next (spanF f.length - 1) 1 s).2 next f else layGo f next (spanF f.length - 1) 1 s
theorem LogMem.cells {w : World} {x g : Nat} {Q : Nat → Prop} {L : LogS} (h : LogMem w x Q g L) : w.cell? ⟨x, 0, none⟩ = some (.pointer (some ⟨g, 0, none⟩)) ∧ w.cell? ⟨x, 2, none⟩ = some (.int .i64 L.next) ∧ w.cell? ⟨x, 3, none⟩ = some (.bool L.dead) := by
  obtain ⟨R, T, v, vs, h1, _⟩ := h
  exact ⟨(cell_of_row w x 0 _ _ _ h1).trans rfl, (cell_of_row w x 2 _ _ _ h1).trans rfl, (cell_of_row w x 3 _ _ _ h1).trans rfl⟩
set_option maxHeartbeats 3200000 in
set_option maxRecDepth 100000 in
theorem lay_c {w : World} {P Q ok : Nat → Prop} {g x : Nat} {s : St} {L : LogS} (hd : DIs w P g s) (hm : LogMem w x Q g L) (hPQ : ∀ k, P k → ¬ Q k) (hQ : ∀ k, Q k → k < w.heap.size) (few : s.opn.length ≤ 900000) (hnx : L.next ≤ 4096) (vf : Value) (f : List Int) (hf : Rd w ok vf f.length (Disk.bytes8 f)) (hok : ∀ k, ok k → ¬ P k) (f1 : 20 ≤ f.length) (f2 : f.length ≤ 16404) :
    Calls Try.prog 74 #[.pointer (some ⟨x, 0, none⟩), vf] w (Rets (DPost w P g (.int .i64 (layP s L.next f).1) (layP s L.next f).2)) := by
  have HD := Lib.hid hd
  obtain ⟨c0, c2, _⟩ := hm.cells
  have hxQ : Q x := by obtain ⟨R, T, v, vs, h1, h2, _⟩ := hm; exact h2
  have hxw := hQ x hxQ
  have hxP : ¬ P x := fun h => hPQ x h hxQ
  obtain ⟨fb, fo, fc, rfl, hcap, _, _⟩ := hf.at (by intro e; have := congrArg List.length e; rw [Disk.bytes8_len, List.length_nil] at this; omega)
  have HF := Lib.hid hf.lt
  have HLy := Lib.hid (show layP s L.next f = if (layGo f L.next (spanF f.length - 1) 1 s).1 = 0 then layMid (layGo f L.next (spanF f.length - 1) 1 s).2 L.next f else layGo f L.next (spanF f.length - 1) 1 s from rfl)
  generalize layP s L.next f = q at *
  have HSp := Lib.hid (fun w => span_c (w := w) f.length (by omega))
  have hsp1 : 1 ≤ spanF f.length := by unfold spanF; omega
  have hsp2 : spanF f.length ≤ 257 := by unfold spanF; omega
  have HSpE := Lib.hid (show ∀ i, i < spanF f.length → 64 * i < f.length by intro i hi; unfold spanF at hi; omega)
  generalize hspq : spanF f.length = sp at *
  have HSpq := Lib.hid hspq
  generalize hnq : L.next = nx at *
  have HC0 := Lib.hid c0
  have HC2 := Lib.hid c2
  clear hd hm hf hspq hnq c0 c2
  go_enter Try.func74, Try.ntmps74
  go_wp2
  go_loopw [5] (fun iv wr => ∃ (i : Nat) (s2 : St), 1 ≤ i ∧ i ≤ sp ∧ iv = .int .i64 i ∧ s2.opn.length ≤ s.opn.length + i ∧ Hid (layGo f nx (sp - 1) 1 s = layGo f nx (sp - i) i s2) ∧ DIs wr (fun k => P k ∨ w.heap.size ≤ k) g s2 ∧ Keeps P w wr) (fun iv _ => sp - (intOf iv).toNat)
  case atStart => exact ⟨1, s, Nat.le_refl _, hsp1, rfl, by omega, Lib.hid rfl, HD.out.wide (fun k h => .inl h), Keeps.refl _ _⟩
  case round =>
    obtain ⟨i, s2, hi1, hi2, rfl, hfew, HG, hD, hK⟩ := hrel
    have HD2 := Lib.hid hD
    have HK := Lib.hid hK
    have szk := hK.size
    have c0 := hK.cell HC0.out hxP
    have c2 := hK.cell HC2.out hxP
    have HFr := Lib.hid (HF.out.kept hK (fun k h => hok k h.1))
    clear hD hK
    by_cases hlt : i < sp
    · have h64 := HSpE.out i hlt
      obtain ⟨j, hj⟩ : ∃ j, j = nx + i := ⟨_, rfl⟩
      have ej : (nx : Int) + i = (j : Int) := by omega
      have hjl : j ≤ 5000 := by omega
      have HStep := Lib.hid (show layGo f nx (sp - 1) 1 s = if (s2.write (j : Int) (secF f i)).1 = 0 then layGo f nx (sp - (i + 1)) (i + 1) (s2.write (j : Int) (secF f i)).2 else s2.write (j : Int) (secF f i) by
        rw [HG.out, show sp - i = (sp - (i + 1)) + 1 by omega, layGo, ← hj])
      clear hj
      by_cases hmin : 64 * (i + 1) < f.length
      · have hm1 : 64 * ((i : Int) + 1) < f.length := by omega
        have q3 : 64 * (i + 1) - 64 * i = 64 := by omega
        have HRp := Lib.hid (show ∀ wq, Keeps (fun _ => False) wr wq → Rd wq (fun k => ok k ∧ k < w.heap.size) (.slice (some ⟨fb, fo + 64 * i, none⟩) (64) (64)) (secF f i).length (Disk.bytes8 (secF f i)) by
          intro wq hk
          have h1 := Rd.part (HFr.out.kept hk (fun _ _ h => h)) (64 * i) (64) (by omega) (64) (Nat.le_refl _)
          have h2 : (secF f i).length = 64 := by unfold secF; rw [List.length_take, List.length_drop]; (try omega)
          have h3 : secF f i = (f.drop (64 * i)).take (64) := by unfold secF; rw [List.take_eq_take_iff, List.length_drop]; (try omega)
          rw [h2, h3]
          simpa [Disk.bytes8, List.map_take, List.map_drop] using h1)
        have hsl : (secF f i).length ≤ 64 := by unfold secF; rw [List.length_take]; omega
        generalize secF f i = sec at *
        go_wp2_with (go_at_call 71; go_loud (refine Rets.use (HSp.out _) ?_); rintro _ _ ⟨rfl, rfl⟩)
        refine Canon.row [0, 1, 2, 4, 5, 6, 8, 10, 11, 12, 13, 14, 3, 7, 9, 15, 16] (by kernel_rfl) (by kernel_rfl) (by repeat (first | (with_reducible exact Safe.body) | (with_reducible apply Safe.then) | (with_reducible apply Safe.inBlock) | (dsimp +zetaDelta only))) ?_
        simp only [Canon.pick, Canon.wpPlan, List.getElem?_toArray, List.getElem?_cons_zero, List.getElem?_cons_succ]
        have KD : Keeps (fun _ => False) wr wr.drew := (Keeps.refl _ wr).drew
        have c0 := KD.cell c0 (fun h => h)
        have c2 := KD.cell c2 (fun h => h)
        have HRq := Lib.hid (HRp.out _ KD)
        have HDq := Lib.hid (HD2.out.kept KD (fun _ _ h => h))
        have HKq := Lib.hid (HK.out.trans KD (fun _ _ h => h.elim))
        have hsd : wr.drew.heap.size = wr.heap.size := rfl
        clear KD HRp
        generalize wr.drew = wz at *
        have HWr := Lib.hid (dWrite_c HDq.out (j : Int) _ sec HRq.out (fun k h h' => by rcases h' with h' | h'; exact hok k h.1 h'; omega) (by omega) (by omega))
        have hwf := write_few s2 (j : Int) sec
        by_cases hw : (s2.write (j : Int) sec).1 = 0
        · have HG2 := Lib.hid (show layGo f nx (sp - 1) 1 s = layGo f nx (sp - (i + 1)) (i + 1) (s2.write (j : Int) sec).2 by rw [HStep.out, if_pos hw])
          rw [hw] at HWr
          generalize (s2.write (j : Int) sec).2 = s3 at *
          go_wp2_with (go_at_call 85; go_loud (try rw [q3]); go_loud (refine Rets.use HWr.out ?_); intro v5 w5 hp5; obtain ⟨rfl, hd5, hk5⟩ := wide_post HKq.out hp5)
          refine ⟨by rfl, trivial, ?_⟩
          go_wp2
          go_roundw
          case rel => exact ⟨i + 1, s3, by omega, by omega, by go_num, by omega, HG2, hd5, hk5⟩
          case measure => simp [intOf]; omega
        · have HG2 := Lib.hid (show layGo f nx (sp - 1) 1 s = s2.write (j : Int) sec by rw [HStep.out, if_neg hw])
          have HE := Lib.hid (show q = s2.write (j : Int) sec by rw [HLy.out, HG2.out, if_neg hw])
          have hwn : ((s2.write (j : Int) sec).1 != 0) = true := by simpa using hw
          clear hw
          generalize s2.write (j : Int) sec = r at *
          obtain ⟨ec, s3⟩ := r
          simp only at hwn HWr
          go_wp2_with (go_at_call 85; go_loud (try rw [q3]); go_loud (refine Rets.use HWr.out ?_); intro v5 w5 hp5; obtain ⟨rfl, hd5, hk5⟩ := wide_post HKq.out hp5)
          refine ⟨by rfl, trivial, ?_⟩
          go_wp2
          go_ret
          rw [HE.out]
          exact ⟨rfl, hd5, hk5⟩
      · have hm1 : (f.length : Int) ≤ 64 * ((i : Int) + 1) := by omega
        clear hmin
        have q3 : 64 * (i + 1) - 64 * i = 64 := by omega
        have HRp := Lib.hid (show ∀ wq, Keeps (fun _ => False) wr wq → Rd wq (fun k => ok k ∧ k < w.heap.size) (.slice (some ⟨fb, fo + 64 * i, none⟩) (f.length - 64 * i) (f.length - 64 * i)) (secF f i).length (Disk.bytes8 (secF f i)) by
          intro wq hk
          have h1 := Rd.part (HFr.out.kept hk (fun _ _ h => h)) (64 * i) (f.length - 64 * i) (by omega) (f.length - 64 * i) (Nat.le_refl _)
          have h2 : (secF f i).length = f.length - 64 * i := by unfold secF; rw [List.length_take, List.length_drop]; (try omega)
          have h3 : secF f i = (f.drop (64 * i)).take (f.length - 64 * i) := by unfold secF; rw [List.take_eq_take_iff, List.length_drop]; (try omega)
          rw [h2, h3]
          simpa [Disk.bytes8, List.map_take, List.map_drop] using h1)
        have hsl : (secF f i).length ≤ 64 := by unfold secF; rw [List.length_take]; omega
        generalize secF f i = sec at *
        go_wp2_with (go_at_call 71; go_loud (refine Rets.use (HSp.out _) ?_); rintro _ _ ⟨rfl, rfl⟩)
        refine Canon.row [0, 1, 2, 4, 5, 6, 8, 10, 11, 12, 13, 14, 3, 7, 9, 15, 16] (by kernel_rfl) (by kernel_rfl) (by repeat (first | (with_reducible exact Safe.body) | (with_reducible apply Safe.then) | (with_reducible apply Safe.inBlock) | (dsimp +zetaDelta only))) ?_
        simp only [Canon.pick, Canon.wpPlan, List.getElem?_toArray, List.getElem?_cons_zero, List.getElem?_cons_succ]
        have KD : Keeps (fun _ => False) wr wr.drew := (Keeps.refl _ wr).drew
        have c0 := KD.cell c0 (fun h => h)
        have c2 := KD.cell c2 (fun h => h)
        have HRq := Lib.hid (HRp.out _ KD)
        have HDq := Lib.hid (HD2.out.kept KD (fun _ _ h => h))
        have HKq := Lib.hid (HK.out.trans KD (fun _ _ h => h.elim))
        have hsd : wr.drew.heap.size = wr.heap.size := rfl
        clear KD HRp
        generalize wr.drew = wz at *
        have HWr := Lib.hid (dWrite_c HDq.out (j : Int) _ sec HRq.out (fun k h h' => by rcases h' with h' | h'; exact hok k h.1 h'; omega) (by omega) (by omega))
        have hwf := write_few s2 (j : Int) sec
        by_cases hw : (s2.write (j : Int) sec).1 = 0
        · have HG2 := Lib.hid (show layGo f nx (sp - 1) 1 s = layGo f nx (sp - (i + 1)) (i + 1) (s2.write (j : Int) sec).2 by rw [HStep.out, if_pos hw])
          rw [hw] at HWr
          generalize (s2.write (j : Int) sec).2 = s3 at *
          go_wp2_with (go_at_call 85; go_loud (try rw [q3]); go_loud (refine Rets.use HWr.out ?_); intro v5 w5 hp5; obtain ⟨rfl, hd5, hk5⟩ := wide_post HKq.out hp5)
          refine ⟨by rfl, trivial, ?_⟩
          go_wp2
          go_roundw
          case rel => exact ⟨i + 1, s3, by omega, by omega, by go_num, by omega, HG2, hd5, hk5⟩
          case measure => simp [intOf]; omega
        · have HG2 := Lib.hid (show layGo f nx (sp - 1) 1 s = s2.write (j : Int) sec by rw [HStep.out, if_neg hw])
          have HE := Lib.hid (show q = s2.write (j : Int) sec by rw [HLy.out, HG2.out, if_neg hw])
          have hwn : ((s2.write (j : Int) sec).1 != 0) = true := by simpa using hw
          clear hw
          generalize s2.write (j : Int) sec = r at *
          obtain ⟨ec, s3⟩ := r
          simp only at hwn HWr
          go_wp2_with (go_at_call 85; go_loud (try rw [q3]); go_loud (refine Rets.use HWr.out ?_); intro v5 w5 hp5; obtain ⟨rfl, hd5, hk5⟩ := wide_post HKq.out hp5)
          refine ⟨by rfl, trivial, ?_⟩
          go_wp2
          go_ret
          rw [HE.out]
          exact ⟨rfl, hd5, hk5⟩
    · obtain rfl : i = sp := by omega
      have HM := Lib.hid (show q = layMid s2 nx f by
        have h1 := HG.out
        rw [Nat.sub_self] at h1
        rw [HLy.out, h1]; rfl)
      by_cases h64 : 64 < f.length
      · have HSy := Lib.hid (dSync_c HD2.out (by omega))
        have hsf := sync_few s2
        by_cases hs : s2.sync.1 = 0
        · have HE := Lib.hid (show q = if (s2.sync.2.write nx (f.take 64)).1 = 0 then (s2.sync.2.write nx (f.take 64)).2.sync else s2.sync.2.write nx (f.take 64) by rw [HM.out, layMid, if_pos h64, if_pos hs, layEnd])
          rw [hs] at HSy
          generalize s2.sync.2 = s3 at *
          go_wp2_with (first
            | (go_at_call 86; go_loud (refine Rets.use HSy.out ?_); intro v5 w5 hp5; obtain ⟨rfl, hd5, hk5⟩ := wide_post HK.out hp5; have c0 := hk5.cell HC0.out hxP; have c2 := hk5.cell HC2.out hxP)
            | (go_at_call 71; go_loud (refine Rets.use (HSp.out _) ?_); rintro _ _ ⟨rfl, rfl⟩))
          have HDy := Lib.hid hd5
          have HKy := Lib.hid hk5
          rename World => wy
          clear hp5 hd5 hk5 HSy HFr HM HG
          refine Canon.row [0, 1, 2, 4, 5, 6, 8, 9, 10, 11, 3, 7, 12, 13] (by kernel_rfl) (by kernel_rfl) (by repeat (first | (with_reducible exact Safe.body) | (with_reducible apply Safe.then) | (with_reducible apply Safe.inBlock) | (dsimp +zetaDelta only))) ?_
          simp only [Canon.pick, Canon.wpPlan, List.getElem?_toArray, List.getElem?_cons_zero, List.getElem?_cons_succ]
          have KD : Keeps (fun _ => False) wy wy.drew := (Keeps.refl _ wy).drew
          have c0 := KD.cell c0 (fun h => h)
          have c2 := KD.cell c2 (fun h => h)
          have HDq := Lib.hid (HDy.out.kept KD (fun _ _ h => h))
          have HKq := Lib.hid (HKy.out.trans KD (fun _ _ h => h.elim))
          have hsd : wy.drew.heap.size = wy.heap.size := rfl
          have szy := HKy.out.size
          have HRq := Lib.hid (show Rd wy.drew (fun k => ok k ∧ k < w.heap.size) (.slice (some ⟨fb, fo, none⟩) (64) (64)) (f.take 64).length (Disk.bytes8 (f.take 64)) by
            have h1 := Rd.part ((HF.out.kept HKy.out (fun k h => hok k h.1)).kept KD (fun _ _ h => h)) 0 (64) (by omega) (64) (Nat.le_refl _)
            have h2 : (f.take 64).length = 64 := by rw [List.length_take]; (try omega)
            have h3 : f.take 64 = f.take (64) := by rw [List.take_eq_take_iff]; (try omega)
            rw [Nat.add_zero, List.drop_zero] at h1
            rw [h2, h3, show Disk.bytes8 (f.take (64)) = (Disk.bytes8 f).take (64) by unfold Disk.bytes8; rw [List.map_take]]
            exact h1)
          have hsl : (f.take 64).length ≤ 64 := by rw [List.length_take]; omega
          clear KD
          generalize f.take 64 = sec at *
          generalize wy.drew = wz at *
          have HWr := Lib.hid (dWrite_c HDq.out (nx : Int) _ sec HRq.out (fun k h h' => by rcases h' with h' | h'; exact hok k h.1 h'; omega) (by omega) (by omega))
          have hwf := write_few s3 (nx : Int) sec
          by_cases hw : (s3.write (nx : Int) sec).1 = 0
          · have HE2 := Lib.hid (show q = (s3.write (nx : Int) sec).2.sync by rw [HE.out, if_pos hw])
            rw [hw] at HWr
            generalize (s3.write (nx : Int) sec).2 = s4 at *
            go_wp2_with (go_at_call 85; go_loud (refine Rets.use HWr.out ?_); intro v6 w6 hp6; obtain ⟨rfl, hd6, hk6⟩ := wide_post HKq.out hp6; have c0 := hk6.cell HC0.out hxP)
            refine ⟨by rfl, trivial, ?_⟩
            have HSy := Lib.hid (dSync_c hd6 (by omega))
            have HK6 := Lib.hid hk6
            go_wp2_with (go_at_call 86; go_loud (refine Rets.use HSy.out ?_); intro v7 w7 hp7; obtain ⟨rfl, hd7, hk7⟩ := wide_post HK6.out hp7)
            go_ret
            rw [HE2.out]
            exact ⟨rfl, hd7, hk7⟩
          · have HE2 := Lib.hid (show q = s3.write (nx : Int) sec by rw [HE.out, if_neg hw])
            have hwn : ((s3.write (nx : Int) sec).1 != 0) = true := by simpa using hw
            clear hw
            generalize s3.write (nx : Int) sec = r at *
            obtain ⟨ec, s4⟩ := r
            simp only at hwn HWr
            go_wp2_with (go_at_call 85; go_loud (refine Rets.use HWr.out ?_); intro v6 w6 hp6; obtain ⟨rfl, hd6, hk6⟩ := wide_post HKq.out hp6)
            refine ⟨by rfl, trivial, ?_⟩
            go_wp2
            go_ret
            rw [HE2.out]
            exact ⟨rfl, hd6, hk6⟩
        · have HE := Lib.hid (show q = s2.sync by rw [HM.out, layMid, if_pos h64, if_neg hs])
          have hsn : (s2.sync.1 != 0) = true := by simpa using hs
          clear hs
          generalize s2.sync = r at *
          obtain ⟨ec, s3⟩ := r
          simp only at hsn HSy
          go_wp2_with (first
            | (go_at_call 86; go_loud (refine Rets.use HSy.out ?_); intro v5 w5 hp5; obtain ⟨rfl, hd5, hk5⟩ := wide_post HK.out hp5)
            | (go_at_call 71; go_loud (refine Rets.use (HSp.out _) ?_); rintro _ _ ⟨rfl, rfl⟩))
          go_ret
          rw [HE.out]
          exact ⟨rfl, hd5, hk5⟩
      · have hle : f.length ≤ 64 := by omega
        have HE := Lib.hid (show q = if (s2.write nx (f.take 64)).1 = 0 then (s2.write nx (f.take 64)).2.sync else s2.write nx (f.take 64) by rw [HM.out, layMid, if_neg h64, layEnd])
        clear h64
        go_wp2_with (go_at_call 71; go_loud (refine Rets.use (HSp.out _) ?_); rintro _ _ ⟨rfl, rfl⟩)
        have HDy := HD2
        have HKy := HK
        have hfew3 : s2.opn.length ≤ 900300 := by omega
        clear HD2 HK
        rename World => wy
        clear HFr HM HG
        generalize s2 = s3 at *
        refine Canon.row [0, 1, 2, 4, 5, 6, 8, 9, 10, 11, 3, 7, 12, 13] (by kernel_rfl) (by kernel_rfl) (by repeat (first | (with_reducible exact Safe.body) | (with_reducible apply Safe.then) | (with_reducible apply Safe.inBlock) | (dsimp +zetaDelta only))) ?_
        simp only [Canon.pick, Canon.wpPlan, List.getElem?_toArray, List.getElem?_cons_zero, List.getElem?_cons_succ]
        have KD : Keeps (fun _ => False) wy wy.drew := (Keeps.refl _ wy).drew
        have c0 := KD.cell c0 (fun h => h)
        have c2 := KD.cell c2 (fun h => h)
        have HDq := Lib.hid (HDy.out.kept KD (fun _ _ h => h))
        have HKq := Lib.hid (HKy.out.trans KD (fun _ _ h => h.elim))
        have hsd : wy.drew.heap.size = wy.heap.size := rfl
        have szy := HKy.out.size
        have HRq := Lib.hid (show Rd wy.drew (fun k => ok k ∧ k < w.heap.size) (.slice (some ⟨fb, fo, none⟩) (f.length) (f.length)) (f.take 64).length (Disk.bytes8 (f.take 64)) by
          have h1 := Rd.part ((HF.out.kept HKy.out (fun k h => hok k h.1)).kept KD (fun _ _ h => h)) 0 (f.length) (by omega) (f.length) (Nat.le_refl _)
          have h2 : (f.take 64).length = f.length := by rw [List.length_take]; (try omega)
          have h3 : f.take 64 = f.take (f.length) := by rw [List.take_eq_take_iff]; (try omega)
          rw [Nat.add_zero, List.drop_zero] at h1
          rw [h2, h3, show Disk.bytes8 (f.take (f.length)) = (Disk.bytes8 f).take (f.length) by unfold Disk.bytes8; rw [List.map_take]]
          exact h1)
        have hsl : (f.take 64).length ≤ 64 := by rw [List.length_take]; omega
        clear KD
        generalize f.take 64 = sec at *
        generalize wy.drew = wz at *
        have HWr := Lib.hid (dWrite_c HDq.out (nx : Int) _ sec HRq.out (fun k h h' => by rcases h' with h' | h'; exact hok k h.1 h'; omega) (by omega) (by omega))
        have hwf := write_few s3 (nx : Int) sec
        by_cases hw : (s3.write (nx : Int) sec).1 = 0
        · have HE2 := Lib.hid (show q = (s3.write (nx : Int) sec).2.sync by rw [HE.out, if_pos hw])
          rw [hw] at HWr
          generalize (s3.write (nx : Int) sec).2 = s4 at *
          go_wp2_with (go_at_call 85; go_loud (refine Rets.use HWr.out ?_); intro v6 w6 hp6; obtain ⟨rfl, hd6, hk6⟩ := wide_post HKq.out hp6; have c0 := hk6.cell HC0.out hxP)
          refine ⟨by rfl, trivial, ?_⟩
          have HSy := Lib.hid (dSync_c hd6 (by omega))
          have HK6 := Lib.hid hk6
          go_wp2_with (go_at_call 86; go_loud (refine Rets.use HSy.out ?_); intro v7 w7 hp7; obtain ⟨rfl, hd7, hk7⟩ := wide_post HK6.out hp7)
          go_ret
          rw [HE2.out]
          exact ⟨rfl, hd7, hk7⟩
        · have HE2 := Lib.hid (show q = s3.write (nx : Int) sec by rw [HE.out, if_neg hw])
          have hwn : ((s3.write (nx : Int) sec).1 != 0) = true := by simpa using hw
          clear hw
          generalize s3.write (nx : Int) sec = r at *
          obtain ⟨ec, s4⟩ := r
          simp only at hwn HWr
          go_wp2_with (go_at_call 85; go_loud (refine Rets.use HWr.out ?_); intro v6 w6 hp6; obtain ⟨rfl, hd6, hk6⟩ := wide_post HKq.out hp6)
          refine ⟨by rfl, trivial, ?_⟩
          go_wp2
          go_ret
          rw [HE2.out]
          exact ⟨rfl, hd6, hk6⟩
end Go.Proofs.Ytbiohidelhfaiaa
