/-
  A log: Room; the same texts; a disk and a log, apart.
-/
import Derived.Test.YtmkpdoljaccpaaaWalD
namespace Go.Proofs.Ytmkpdoljaccpaaa
open Go.RowKit Go.Canon Go.Mem Go.Args
open Go.Disk (St)
set_option linter.unusedVariables false
set_option linter.unusedSimpArgs false
set_option maxHeartbeats 1600000 in
set_option maxRecDepth 100000 in
theorem room_c {w : World} {P Q : Nat → Prop} {g x : Nat} {s : St} {L : LogS} (hd : DIs w P g s) (hm : LogMem w x Q g L) (hn : L.next ≤ s.now.length) : Calls Try.prog 42 #[.pointer (some ⟨x, 0, none⟩)] w (Rets (Still (.int .i64 (roomP s.now.length L.next)) w)) := by
  obtain ⟨c0, c2, _⟩ := hm.cells
  have hmost := hd.ok.most
  have HDd := Lib.hid (hd.kept ((Keeps.refl (fun _ => False) w).drew) (fun _ _ h => h))
  have HSec := Lib.hid (dSectors_c HDd.out)
  have c0d := ((Keeps.refl (fun _ => False) w).drew).cell c0 (fun h => h)
  have c2d := ((Keeps.refl (fun _ => False) w).drew).cell c2 (fun h => h)
  have HKd := Lib.hid ((Keeps.refl (fun _ => False) w).drew)
  clear hd hm
  generalize L.next = nx at *
  generalize s.now.length = N at *
  obtain ⟨z, hz⟩ : ∃ z : Int, (N : Int) - nx = z := ⟨_, rfl⟩
  have hz0 : 0 ≤ z := by omega
  have hz1 : z ≤ 4096 := by omega
  have HR := Lib.hid (show roomP N nx = if z * 64 - 20 < -1 then -1 else if 16384 < z * 64 - 20 then 16384 else z * 64 - 20 by unfold roomP; rw [hz, Int.mul_comm])
  have HSz := Lib.hid (fun w => size0_c w)
  generalize roomP N nx = r at *
  go_enter Try.func42, Try.ntmps42
  go_wp2
  refine Canon.region [4] [(⟨x, 2, none⟩, .int .i64 nx)] [(8, 0)] (.hold [0, 1, 2, 5, 6, 7, 3, 8] (.loud 4 (.seg [9, 10, 11] .stop))) (by kernel_rfl) (by kernel_rfl) (by repeat (first | (with_reducible exact Safe.body) | (with_reducible apply Safe.then) | (with_reducible apply Safe.inBlock) | (dsimp +zetaDelta only))) ?_
  simp only [Canon.pick, Canon.wpPlan, List.getElem?_toArray, List.getElem?_cons_zero, List.getElem?_cons_succ]
  generalize w.drew = wd at *
  have HX := Lib.hid (show ∀ p ∈ [((⟨x, 2, none⟩ : Addr), Value.int .i64 nx)], wd.cell? p.1 = some p.2 by
    intro p hp; rw [List.mem_singleton] at hp; subst hp; exact c2d)
  refine ⟨HX.out, ?_⟩
  go_wp2_with (go_at_call 33; go_loud (refine Rets.use HSec.out ?_); rintro _ _ ⟨rfl, rfl⟩)
  refine ⟨HX.out, ?_⟩
  go_wp2
  refine ⟨by rfl, ⟨fun _ => rfl, trivial⟩, ?_⟩
  by_cases h1 : z * 64 - 20 < -1
  · have e : r = -1 := by have := HR.out; rwa [if_pos h1] at this
    have h2 : z * 64 - 20 < 16384 := by omega
    go_wp2_with (go_at_call 63; go_loud (refine Rets.use (HSz.out _) ?_); rintro _ _ ⟨rfl, rfl⟩)
    go_ret
    rw [e]
    exact ⟨rfl, HKd.out⟩
  · have h1b : -1 < z * 64 - 20 := by omega
    by_cases h2 : 16384 < z * 64 - 20
    · have e : r = 16384 := by have := HR.out; rwa [if_neg h1, if_pos h2] at this
      go_wp2_with (go_at_call 63; go_loud (refine Rets.use (HSz.out _) ?_); rintro _ _ ⟨rfl, rfl⟩)
      go_ret
      rw [e]
      exact ⟨rfl, HKd.out⟩
    · have e : r = z * 64 - 20 := by have := HR.out; rwa [if_neg h1, if_neg h2] at this
      have h2b : z * 64 - 20 < 16384 := by omega
      go_wp2_with (go_at_call 63; go_loud (refine Rets.use (HSz.out _) ?_); rintro _ _ ⟨rfl, rfl⟩)
      go_ret
      rw [e]
      exact ⟨rfl, HKd.out⟩
theorem same_self10 {ok ok2 : Nat → Prop} {w : World} {v v2 : Value} {xs : List Int} (hr : Rd w ok v xs.length (Disk.bytes8 xs)) (hr2 : Rd w ok2 v2 xs.length (Disk.bytes8 xs)) (hl : xs.length ≤ 9223372036854775807) : Calls Try.prog 26 #[v, v2] w (Rets (Still (.bool true) w)) := by
  have h := same_c v v2 xs xs hr hr2 hl
  rw [show decide (xs = xs) = true by simp] at h
  exact h
set_option maxHeartbeats 1600000 in
set_option maxRecDepth 100000 in
theorem same07_self {w : World} {ok ok2 : Nat → Prop} {a b : Value} {xs : List (List Int)} (ha : RowsRd w ok a xs) (hb : RowsRd w ok2 b xs) (hm : xs.length ≤ 1000000) (hx : ∀ x ∈ xs, x.length ≤ 1000000) : Calls Try.prog 40 #[a, b] w (Rets (Still (.bool true) w)) := by
  obtain ⟨vs, ha1, ha2, ha3⟩ := ha
  obtain ⟨us, hb1, hb2, hb3⟩ := hb
  obtain ⟨A, ca, rfl, hca, _⟩ := ha1.slice
  obtain ⟨B, cb, rfl, hcb, _⟩ := hb1.slice
  have HA := Lib.hid ha1
  have HB := Lib.hid hb1
  have HA3 := Lib.hid ha3
  have HB3 := Lib.hid hb3
  have HA2 := Lib.hid ha2
  have HB2 := Lib.hid hb2
  have HX := Lib.hid hx
  clear ha1 hb1 ha3 hb3 ha2 hb2
  go_enter Try.func40, Try.ntmps40
  go_wp2
  go_loopw [5] (fun i wr => ∃ k : Nat, k ≤ xs.length ∧ i = .int .i64 k ∧ Keeps (fun _ => False) w wr) (fun i _ => xs.length - (intOf i).toNat)
  case atStart => exact ⟨0, Nat.zero_le _, rfl, Keeps.refl _ w⟩
  case round =>
    obtain ⟨k, hk, rfl, hK⟩ := hrel
    by_cases hlt : k < xs.length
    · obtain ⟨u1, e1, r1⟩ := HA3.out k _ (List.getElem?_eq_getElem hlt)
      obtain ⟨u2, e2, r2⟩ := HB3.out k _ (List.getElem?_eq_getElem hlt)
      obtain ⟨b1, o1, c1, f1, _, _, g1⟩ := (HA.out.kept hK (fun _ _ h => h)).at (by intro e; have := congrArg List.length e; rw [HA2.out, List.length_nil] at this; omega)
      obtain ⟨b2, o2, c2, f2, _, _, g2⟩ := (HB.out.kept hK (fun _ _ h => h)).at (by intro e; have := congrArg List.length e; rw [HB2.out, List.length_nil] at this; omega)
      cases f1
      cases f2
      have d1 := g1 k _ e1
      have d2 := g2 k _ e2
      have HR1 := Lib.hid (r1.kept hK (fun _ _ h => h))
      have HR2 := Lib.hid (r2.kept hK (fun _ _ h => h))
      have lx := hx _ (List.getElem_mem hlt)
      have HK := Lib.hid hK
      clear r1 r2 e1 e2 g1 g2
      generalize xs[k] = x at *
      go_wp2
      refine Canon.row [0, 1, 2, 4, 5, 6, 3, 7, 8, 9] (by kernel_rfl) (by kernel_rfl) (by repeat (first | (with_reducible exact Safe.body) | (with_reducible apply Safe.then) | (with_reducible apply Safe.inBlock) | (dsimp +zetaDelta only))) ?_
      simp only [Canon.pick, Canon.wpPlan, List.getElem?_toArray, List.getElem?_cons_zero, List.getElem?_cons_succ]
      have KD : Keeps (fun _ => False) wr wr.drew := (Keeps.refl _ wr).drew
      have d1 := KD.cell d1 (fun h => h)
      have d2 := KD.cell d2 (fun h => h)
      go_wp2_with (go_at_call 26; go_loud (refine Rets.use (same_self10 (HR1.out.kept KD (fun _ _ h => h)) (HR2.out.kept KD (fun _ _ h => h)) (by omega)) ?_); rintro v w5 ⟨rfl, hk5⟩)
      refine ⟨by rfl, trivial, ?_⟩
      go_wp2
      go_roundw
      case rel => exact ⟨k + 1, by omega, by go_num, (HK.out.trans KD (fun _ _ h => h)).trans hk5 (fun _ _ h => h)⟩
      case measure => simp [intOf]; omega
    · obtain rfl : k = xs.length := by omega
      go_wp2
      go_ret
      exact ⟨rfl, hK⟩
/-- A disk and a log in memory, apart. -/
def WL (W w : World) (g x : Nat) (s : St) (L : LogS) : Prop := Keeps (fun _ => False) W w ∧ ∃ P Q : Nat → Prop, DIs w P g s ∧ LogMem w x Q g L ∧ (∀ k, P k → W.heap.size ≤ k ∧ k < w.heap.size ∧ ¬ Q k) ∧ (∀ k, Q k → W.heap.size ≤ k ∧ k < w.heap.size)
theorem WL.kept {W w w' : World} {g x : Nat} {s : St} {L : LogS} (h : WL W w g x s L) (hk : Keeps (fun _ => False) w w') : WL W w' g x s L := by
  obtain ⟨h0, P, Q, hd, hm, hP, hQ⟩ := h
  have := hk.size
  exact ⟨h0.trans hk (fun _ _ h => h), P, Q, hd.kept hk (fun _ _ h => h), hm.kept hk (fun _ _ h => h), fun k h => ⟨(hP k h).1, by have := (hP k h).2.1; omega, (hP k h).2.2⟩, fun k h => ⟨(hQ k h).1, by have := (hQ k h).2; omega⟩⟩
def AppPost (W : World) (g x : Nat) (r : Int × St × LogS) : Value → World → Prop := fun v w => v = .int .i64 r.1 ∧ WL W w g x r.2.1 r.2.2
theorem append_w {W w0 w : World} {ok : Nat → Prop} {g x : Nat} {s : St} {L : LogS} (h : WL W w0 g x s L) (hk : Keeps (fun _ => False) w0 w) (hI : WInv s L) (ho : s.opn = []) (vb : Value) (b : List Int) (hb : Rd w ok vb b.length (Disk.bytes8 b)) (hok : ∀ k, ok k → w0.heap.size ≤ k) (hbl : b.length ≤ 1000000) :
    Calls Try.prog 37 #[.pointer (some ⟨x, 0, none⟩), vb] w (Rets (AppPost W g x (appendP s L b))) := by
  obtain ⟨h0, P, Q, hd, hm, hP, hQ⟩ := h
  have hs := hk.size
  have hs0 := h0.size
  have hn := hI.nexts
  have hmo := hI.most
  refine Rets.use (append_c (hd.kept hk (fun _ _ h => h)) (hm.kept hk (fun _ _ h => h)) (fun k h => (hP k h).2.2) (fun k h => by have := (hQ k h).2; omega) (by rw [ho]; decide) hn.1 (by omega) vb b hb (fun k h => ⟨fun h' => by have := hok k h; have := (hP k h').2.1; omega, fun h' => by have := hok k h; have := (hQ k h').2; omega⟩) hbl) ?_
  rintro v w' ⟨rfl, hk', Q', hQ', hd', hm'⟩
  have hs' := hk'.size
  refine ⟨rfl, (h0.trans hk (fun _ _ h => h)).trans hk' (fun k hk h => by rcases h with h | h; have := (hP k h).1; omega; have := (hQ k h).1; omega), _, Q', hd'.bound, hm', fun k h => ⟨?_, h.2, h.1.2⟩, fun k h => ⟨?_, (hQ' k h).2⟩⟩
  · rcases h.1.1 with h1 | h1
    · exact (hP k h1).1
    · omega
  · rcases (hQ' k h).1 with h1 | h1
    · exact (hQ k h1).1
    · omega
end Go.Proofs.Ytmkpdoljaccpaaa
