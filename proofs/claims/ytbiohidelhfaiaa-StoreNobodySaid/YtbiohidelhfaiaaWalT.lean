/-
  A log: Texts, Next, Room; a log that no call made.
-/
import Derived.Test.YtbiohidelhfaiaaWalA
namespace Go.Proofs.Ytbiohidelhfaiaa
open Go.RowKit Go.Canon Go.Mem Go.Args
open Go.Disk (St)
set_option linter.unusedVariables false
set_option linter.unusedSimpArgs false
section
variable {w : World} {x g : Nat} {Q : Nat → Prop} {L : LogS}
theorem size0_c (w : World) : Calls Try.prog 80 #[.int .i64 0] w (Rets (Only (.int .i64 20) w)) := by
  go_enter Try.func80, Try.ntmps80
  go_wp2
  go_ret
  exact ⟨rfl, rfl⟩
/-- How long the next text may be. -/
def roomP (N next : Nat) : Int := if 64 * ((N : Int) - next) - 20 < -1 then -1 else if 16384 < 64 * ((N : Int) - next) - 20 then 16384 else 64 * ((N : Int) - next) - 20
theorem texts_nil (w : World) : Calls Try.prog 51 #[.pointer none] w (Rets (Only (.slice none 0 0) w)) := by
  go_enter Try.func51, Try.ntmps51
  go_wp2
  go_ret
  exact ⟨rfl, rfl⟩
theorem texts_plain (c1 : w.cell? ⟨x, 1, none⟩ = some (.slice none 0 0)) : Calls Try.prog 51 #[.pointer (some ⟨x, 0, none⟩)] w (Rets (Only (.slice none 0 0) w)) := by
  go_enter Try.func51, Try.ntmps51
  go_wp2
  go_loopw [3, 13] (fun ov iv wr => ov = .slice none 0 0 ∧ iv = .int .i64 0 ∧ wr = w) (fun _ _ _ => 0)
  case atStart => exact ⟨rfl, rfl, rfl⟩
  case round =>
    obtain ⟨rfl, rfl, rfl⟩ := hrel
    go_wp2
    go_ret
    exact ⟨rfl, rfl⟩
theorem room_nil (w : World) : Calls Try.prog 63 #[.pointer none] w (Rets (Only (.int .i64 (-1)) w)) := by
  go_enter Try.func63, Try.ntmps63
  go_wp2
  go_ret
  exact ⟨rfl, rfl⟩
theorem room_plain (c0 : w.cell? ⟨x, 0, none⟩ = some (.pointer none)) : Calls Try.prog 63 #[.pointer (some ⟨x, 0, none⟩)] w (Rets (Only (.int .i64 (-1)) w)) := by
  go_enter Try.func63, Try.ntmps63
  go_wp2
  go_ret
  exact ⟨rfl, rfl⟩
theorem append_nil (w : World) (v : Value) : Calls Try.prog 54 #[.pointer none, v] w (Rets (Only (.int .i64 1) w)) := by
  go_enter Try.func54, Try.ntmps54
  go_wp2
  go_ret
  exact ⟨rfl, rfl⟩
theorem append_plain (c0 : w.cell? ⟨x, 0, none⟩ = some (.pointer none)) (v : Value) : Calls Try.prog 54 #[.pointer (some ⟨x, 0, none⟩), v] w (Rets (Only (.int .i64 1) w)) := by
  go_enter Try.func54, Try.ntmps54
  go_wp2
  go_ret
  exact ⟨rfl, rfl⟩
theorem open_nob {p : Value} (h : NoDisk w p) : Calls Try.prog 50 #[p] w (Rets (Only (.tuple #[.pointer none, .int .i64 1]) w)) := by
  have HS := Lib.hid (sectors_no h)
  clear h
  go_enter Try.func50, Try.ntmps50
  go_wp2_with (go_at_call 67; refine Rets.use HS.out ?_; rintro _ _ ⟨rfl, rfl⟩)
  go_ret2
  exact ⟨rfl, rfl⟩
/-- A log that no call made. -/
def NoLog (w : World) (p : Value) : Prop := p = .pointer none ∨ ∃ x, p = .pointer (some ⟨x, 0, none⟩) ∧ w.cell? ⟨x, 0, none⟩ = some (.pointer none) ∧ w.cell? ⟨x, 1, none⟩ = some (.slice none 0 0) ∧ w.cell? ⟨x, 2, none⟩ = some (.int .i64 0)
theorem texts_no {p : Value} (h : NoLog w p) : Calls Try.prog 51 #[p] w (Rets (Only (.slice none 0 0) w)) := by
  rcases h with rfl | ⟨x, rfl, c0, c1, c2⟩
  · exact texts_nil w
  · exact texts_plain c1
theorem room_no {p : Value} (h : NoLog w p) : Calls Try.prog 63 #[p] w (Rets (Only (.int .i64 (-1)) w)) := by
  rcases h with rfl | ⟨x, rfl, c0, c1, c2⟩
  · exact room_nil w
  · exact room_plain c0
theorem append_no {p : Value} (h : NoLog w p) (v : Value) : Calls Try.prog 54 #[p, v] w (Rets (Only (.int .i64 1) w)) := by
  rcases h with rfl | ⟨x, rfl, c0, c1, c2⟩
  · exact append_nil w v
  · exact append_plain c0 v
set_option maxHeartbeats 1600000 in
theorem texts_c (hm : LogMem w x Q g L) (hl : L.texts.length ≤ 4096) (hb : ∀ t ∈ L.texts, t.length ≤ 1000000) : Calls Try.prog 51 #[.pointer (some ⟨x, 0, none⟩)] w (Rets (AllPost w L.texts)) := by
  obtain ⟨R, T, v, vs, hbx, hQx, hRQ, hTQ, nR, nT, hRT, hO, hTx⟩ := hm
  obtain ⟨Av, cv, rfl, _⟩ := hO.slice
  have c1 : w.cell? ⟨x, 1, none⟩ = some (.slice Av L.texts.length cv) := (cell_of_row w x 1 _ _ _ hbx).trans rfl
  have HOs := Lib.hid hO.rd
  have HTx := Lib.hid hTx
  have HB := Lib.hid hb
  clear hbx hO hTx hb
  generalize L.texts = ls at *
  go_enter Try.func51, Try.ntmps51
  go_wp2
  go_loopw [3, 13] (fun o i wr => ∃ k : Nat, k ≤ ls.length ∧ i = .int .i64 k ∧ AllPost w (ls.take k) o wr) (fun _ i _ => ls.length - (intOf i).toNat)
  case atStart => exact ⟨0, Nat.zero_le _, rfl, Keeps.refl _ w, BytesRows.nil w w⟩
  case round =>
    obtain ⟨k, hk, rfl, hK, hR⟩ := hrel
    have HRk := Lib.hid hR
    obtain ⟨us, hO, hV⟩ := hR
    have htl : (ls.take k).length = k := by rw [List.length_take]; omega
    rw [htl] at hO
    have HV := Lib.hid hV
    have HO := Lib.hid hO
    have HK := Lib.hid hK
    have hsz := hK.size
    have hul := hO.len
    rw [Nat.mul_one] at hul
    obtain ⟨Ao, co, rfl, _⟩ := hO.slice
    have HTL := Lib.hid htl
    clear hV hO htl
    by_cases hlt : k < ls.length
    · obtain ⟨u, e1, hu⟩ := HTx.out.2 k _ (List.getElem?_eq_getElem hlt)
      have hvl := HTx.out.1
      obtain ⟨b, o, c, e, _, _, hcell⟩ := HOs.out.at (by intro e; rw [e] at e1; cases e1)
      cases e
      have cu := hK.cell (hcell k _ e1) (fun h => h)
      have HU := Lib.hid (hu.kept hK (fun _ _ h => h))
      have hlen := HB.out ls[k] (List.getElem_mem _)
      have HT2 := Lib.hid (show ls.take (k + 1) = ls.take k ++ [ls[k]] by rw [List.take_add_one, List.getElem?_eq_getElem hlt]; rfl)
      clear hcell hu e1
      generalize ls[k] = t at *
      have HC := Lib.hid (clone_c (w := wr) u t HU.out (by omega))
      go_wp2_with (first
        | ((with_reducible refine at_ 21 rfl ?_); go_must (refine step_append_rd (ok := fun j => (Value.slice Ao k co).ownBlock = some j) (ok2 := fun j => w.heap.size ≤ j) rfl _ _ _ rfl 23 _ 1 24 Try.underlying103 row_bytes rfl (by decide) (.slice Ao k co) k us rfl (own_self ((HO.out.kept hk1 (fun _ _ h => h)).kept hk2 (fun _ _ h => h))) _ 1 [v1] rfl (lit_rd (Rd.one hr1.rd) hb2 (by have := hk1.size; omega)) rfl (by intro x hx; rw [List.mem_singleton] at hx; subst hx; exact Rd.one hr1.rd) (by simp only [maxLen]; omega) (by omega) ?_); intro v' w' ho hk')
        | ((with_reducible refine at_ 20 rfl ?_); go_must (refine step_lit rfl 103 _ 1 rfl [v1] rfl rfl (by decide) 23 _ 1 Try.underlying103 row2_bytes (by decide) (by decide) (by intro v hv; rw [List.mem_singleton] at hv; subst hv; exact one_size (Rd.one hr1.rd)) ?_); intro w2 hb2 hk2 hs2)
        | (go_at_call 64; go_loud (refine Rets.use HC.out ?_); rintro v1 w1 ⟨hr1, hk1⟩))
      go_roundw
      case rel =>
        refine ⟨k + 1, hlt, by go_num, ((HK.out.trans hk1 (fun _ _ h => h)).trans hk2 (fun _ _ h => h)).trans hk' (fun j hj h => by have := HO.out.2 j h; omega), ?_⟩
        have hv' : ∀ j, (Value.slice Ao k co).ownBlock = some j → w.heap.size ≤ j ∧ j < wr.heap.size := fun j h => ⟨HO.out.2 j h, HO.out.lt j h⟩
        rw [HT2.out]
        refine BytesRows.push (wr := wr) hsz HV.out (by rw [HTL.out]; exact hul) hv' (hk1.trans hk2 (fun _ _ h => h)) ((hr1.rd.lt.kept hk2 (fun _ _ h => h)).mono (fun j h => ⟨h.1, by have := hk2.size; omega⟩)) hk' ?_
        rw [HTL.out]
        exact ho.mono (fun j hj h => by rcases h with h | h; exact .inl h; exact .inr h)
      case measure => simp [intOf]; omega
    · obtain rfl : k = ls.length := by omega
      go_wp2
      go_ret
      have := HRk.out
      rw [List.take_length] at this
      exact ⟨HK.out, this⟩
end
end Go.Proofs.Ytbiohidelhfaiaa
