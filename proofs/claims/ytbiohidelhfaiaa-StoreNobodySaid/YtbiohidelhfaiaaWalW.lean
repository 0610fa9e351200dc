/-
  A log's parts: noughts behind the end.
-/
import Derived.Test.YtbiohidelhfaiaaWalM
namespace Go.Proofs.Ytbiohidelhfaiaa
open Go.RowKit Go.Canon Go.Mem Go.Args
open Go.Disk (St)
set_option linter.unusedVariables false
set_option linter.unusedSimpArgs false
def secF (all : List Int) (j : Nat) : List Int := (all.drop (64 * j)).take 64
def wipeGo (all : List Int) (frm : Nat) : Nat → Bool → St → Int × Bool × St
  | 0, sm, s => (0, sm, s)
  | n + 1, sm, s => if blankF (secF all (frm + n)) = true then wipeGo all frm n sm s else if (s.write ((frm + n : Nat) : Int) []).1 = 0 then wipeGo all frm n true (s.write ((frm + n : Nat) : Int) []).2 else ((s.write ((frm + n : Nat) : Int) []).1, true, (s.write ((frm + n : Nat) : Int) []).2)
def wipeP (s : St) (all : List Int) (frm : Nat) : Int × St := if (wipeGo all frm (s.now.length - frm) false s).1 = 0 then (if (wipeGo all frm (s.now.length - frm) false s).2.1 = true then (wipeGo all frm (s.now.length - frm) false s).2.2.sync else (0, (wipeGo all frm (s.now.length - frm) false s).2.2)) else ((wipeGo all frm (s.now.length - frm) false s).1, (wipeGo all frm (s.now.length - frm) false s).2.2)
theorem wide_post {w wr w' : World} {P : Nat → Prop} {g : Nat} {s' : St} {v v' : Value} (hK : Keeps P w wr) (h : DPost wr (fun k => P k ∨ w.heap.size ≤ k) g v s' v' w') : DPost w P g v s' v' w' := by
  obtain ⟨e, hd, hk⟩ := h
  have := hK.size
  exact ⟨e, hd.wide (fun k h => by rcases h with h | h; exact h; exact .inr (by omega)), hK.trans hk (fun k hk h => by rcases h with h | h; exact h; omega)⟩
set_option maxHeartbeats 1600000 in
set_option maxRecDepth 100000 in
theorem wipe_c {w : World} {P ok : Nat → Prop} {g : Nat} {s : St} (h : DIs w P g s) (few : s.opn.length ≤ 900000) (v : Value) (all : List Int) (hr : Rd w ok v all.length (Disk.bytes8 all)) (hok : ∀ k, ok k → ¬ P k) (hl : all.length = s.now.length * 64) (frm : Nat) (hf : frm ≤ s.now.length) :
    Calls Try.prog 72 #[.pointer (some ⟨g, 0, none⟩), v, .int .i64 frm] w (Rets (DPost w P g (.int .i64 (wipeP s all frm).1) (wipeP s all frm).2)) := by
  have HH := Lib.hid h
  have hpos := h.ok.pos
  have hmost := h.ok.most
  have HS := Lib.hid (dSectors_c h)
  obtain ⟨b, o, c, rfl, hc, _, _⟩ := hr.at (by intro e; have := congrArg List.length e; rw [Disk.bytes8_len, List.length_nil] at this; omega)
  have HR := Lib.hid hr.lt
  obtain ⟨n0, hn0⟩ : ∃ n0, s.now.length = frm + n0 := ⟨s.now.length - frm, by omega⟩
  have hn1 : s.now.length - frm = n0 := by omega
  have HQ := Lib.hid (show wipeP s all frm = if (wipeGo all frm n0 false s).1 = 0 then (if (wipeGo all frm n0 false s).2.1 = true then (wipeGo all frm n0 false s).2.2.sync else (0, (wipeGo all frm n0 false s).2.2)) else ((wipeGo all frm n0 false s).1, (wipeGo all frm n0 false s).2.2) by unfold wipeP; rw [hn1])
  generalize wipeP s all frm = q at *
  have HL := Lib.hid hl
  clear h hr hl hn1
  generalize hN : s.now.length = N at *
  clear hN
  have hn04 : n0 ≤ 4096 := by omega
  have HN0 := Lib.hid hn0
  clear hn0 hpos
  go_enter Try.func72, Try.ntmps72
  go_wp2_with (go_at_call 67; refine Rets.use HS.out ?_; rintro _ _ ⟨rfl, rfl⟩)
  go_loopw [7, 8] (fun sv iv wr => ∃ (n : Nat) (sm : Bool) (s2 : St), n ≤ n0 ∧ iv = .int .i64 (((frm + n : Nat) : Int) - 1) ∧ sv = .bool sm ∧ s2.opn.length + n ≤ s.opn.length + n0 ∧ Hid (wipeGo all frm n0 false s = wipeGo all frm n sm s2) ∧ DIs wr (fun k => P k ∨ w.heap.size ≤ k) g s2 ∧ Keeps P w wr) (fun _ iv _ => (intOf iv + 1 - frm).toNat)
  case atStart => exact ⟨n0, false, s, Nat.le_refl _, by rw [← HN0.out], rfl, Nat.le_refl _, Lib.hid rfl, HH.out.wide (fun k h => .inl h), Keeps.refl _ _⟩
  case round =>
    obtain ⟨n, sm, s2, hn, rfl, rfl, hfew, HF, hD, hK⟩ := hrel
    have HD := Lib.hid hD
    have HK := Lib.hid hK
    have szk := hK.size
    have HRr := Lib.hid (HR.out.kept hK (fun k h => hok k h.1))
    clear hD hK HS
    cases n with
    | zero =>
      have e1 : (((frm + 0 : Nat) : Int) - 1) = (frm : Int) - 1 := by omega
      rw [e1]
      have HF2 := Lib.hid (show wipeGo all frm n0 false s = (0, sm, s2) from HF.out)
      rw [HF2.out] at HQ
      clear HF e1
      cases sm with
      | true =>
        have HSy := Lib.hid (dSync_c HD.out (by omega))
        go_wp2_with (go_at_call 86; go_loud (refine Rets.use HSy.out ?_); intro v5 w5 hp5; obtain ⟨rfl, hd5, hk5⟩ := wide_post HK.out hp5)
        go_ret
        rw [show q = s2.sync from HQ.out]
        exact ⟨rfl, hd5, hk5⟩
      | false =>
        go_wp2
        go_ret
        rw [show q = (0, s2) from HQ.out]
        exact ⟨rfl, HD.out, HK.out⟩
    | succ n =>
      have e1 : (((frm + (n + 1) : Nat) : Int) - 1) = ((frm + n : Nat) : Int) := by omega
      rw [e1]
      obtain ⟨j, hj⟩ : ∃ j : Nat, j = frm + n := ⟨_, rfl⟩
      have hjl : frm ≤ j := by omega
      have hj2 : j < N := by have := HN0.out; omega
      have hpl : 64 * j + 64 ≤ all.length := by have := HL.out; omega
      have HP := Lib.hid (show Rd wr _ (.slice (some ⟨b, o + 64 * j, none⟩) 64 (c - 64 * j)) (secF all j).length (Disk.bytes8 (secF all j)) by
        have := Rd.part HRr.out (64 * j) 64 hpl (c - 64 * j) (by omega)
        have hs : secF all j = (all.drop (64 * j)).take 64 := rfl
        rw [hs, List.length_take, List.length_drop, Nat.min_eq_left (by omega)]
        simpa [Disk.bytes8, List.map_take, List.map_drop] using this)
      have hsl : (secF all j).length ≤ 64 := by unfold secF; rw [List.length_take]; omega
      have q3 : 64 * (j + 1) - 64 * j = 64 := by omega
      have HG := Lib.hid (show wipeGo all frm n0 false s = if blankF (secF all j) = true then wipeGo all frm n sm s2 else if (s2.write (j : Int) []).1 = 0 then wipeGo all frm n true (s2.write (j : Int) []).2 else ((s2.write (j : Int) []).1, true, (s2.write (j : Int) []).2) by rw [HF.out, hj]; rfl)
      have HWr := Lib.hid (dWrite_c (ok := fun _ => False) HD.out (j : Int) (.slice none 0 0) [] (Rd.nil _ _) (fun _ h => h.elim) (by decide) (by omega))
      have hwf := write_few s2 (j : Int) []
      have HJ := Lib.hid hj
      rw [← hj]
      clear hj HF e1
      generalize secF all j = sec at *
      cases hb : blankF sec with
      | true =>
        have HF := Lib.hid (show wipeGo all frm n0 false s = wipeGo all frm n sm s2 by rw [HG.out, if_pos hb])
        have HBl := Lib.hid (show Calls Try.prog 69 #[.slice (some ⟨b, o + 64 * j, none⟩) 64 (c - 64 * j)] wr (Rets (Only (.bool true) wr)) by rw [← hb]; exact blank_c _ sec HP.out (by omega))
        go_wp2_with (go_at_call 69; go_loud (try rw [q3]); go_loud (refine Rets.use HBl.out ?_); rintro _ _ ⟨rfl, rfl⟩)
        go_roundw
        case rel => exact ⟨n, sm, s2, by omega, by rw [HJ.out], rfl, by omega, HF, HD.out, HK.out⟩
        case measure => simp [intOf]; omega
      | false =>
        have HBl := Lib.hid (show Calls Try.prog 69 #[.slice (some ⟨b, o + 64 * j, none⟩) 64 (c - 64 * j)] wr (Rets (Only (.bool false) wr)) by rw [← hb]; exact blank_c _ sec HP.out (by omega))
        by_cases hw : (s2.write (j : Int) []).1 = 0
        · have HF := Lib.hid (show wipeGo all frm n0 false s = wipeGo all frm n true (s2.write (j : Int) []).2 by rw [HG.out, if_neg (by rw [hb]; simp), if_pos hw])
          rw [hw] at HWr
          generalize (s2.write (j : Int) []).2 = s3 at *
          go_wp2_with (first
            | (go_at_call 85; go_loud (refine Rets.use HWr.out ?_); intro v5 w5 hp5; obtain ⟨rfl, hd5, hk5⟩ := wide_post HK.out hp5)
            | (go_at_call 69; go_loud (try rw [q3]); go_loud (refine Rets.use HBl.out ?_); rintro _ _ ⟨rfl, rfl⟩))
          go_roundw
          case rel => exact ⟨n, true, s3, by omega, by rw [HJ.out], rfl, by omega, HF, hd5, hk5⟩
          case measure => simp [intOf]; omega
        · have HF := Lib.hid (show wipeGo all frm n0 false s = ((s2.write (j : Int) []).1, true, (s2.write (j : Int) []).2) by rw [HG.out, if_neg (by rw [hb]; simp), if_neg hw])
          rw [HF.out] at HQ
          have hwn : ((s2.write (j : Int) []).1 != 0) = true := by simpa using hw
          have HWn := Lib.hid hw
          generalize (s2.write (j : Int) []).1 = ec at *
          generalize (s2.write (j : Int) []).2 = s3 at *
          go_wp2_with (first
            | (go_at_call 85; go_loud (refine Rets.use HWr.out ?_); intro v5 w5 hp5; obtain ⟨rfl, hd5, hk5⟩ := wide_post HK.out hp5)
            | (go_at_call 69; go_loud (try rw [q3]); go_loud (refine Rets.use HBl.out ?_); rintro _ _ ⟨rfl, rfl⟩))
          go_ret
          have e : q = (ec, s3) := by have := HQ.out; rwa [if_neg HWn.out] at this
          rw [e]
          exact ⟨rfl, hd5, hk5⟩
end Go.Proofs.Ytbiohidelhfaiaa
