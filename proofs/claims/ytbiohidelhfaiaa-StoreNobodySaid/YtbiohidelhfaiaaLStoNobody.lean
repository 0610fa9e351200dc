/-
  StoreNobody: the walk.
-/
import Derived.Test.YtbiohidelhfaiaaStoL
import Derived.Test.YtbiohidelhfaiaaStF
namespace Go.Proofs.Ytbiohidelhfaiaa
open Go.RowKit Go.Canon Go.Mem Go.Args
open Go.Proofs.Ytbiohidelhfaiaa.Sto (Chg)
set_option linter.unusedVariables false
set_option linter.unusedSimpArgs false
theorem get_nil (w : World) (s : ByteArray) : Calls Try.prog 38 #[.pointer none, .string s] w (Rets (Only (.tuple #[.slice none 0 0, .bool false]) w)) := by
  go_enter Try.func38, Try.ntmps38
  go_wp2
  go_ret2
  exact ⟨rfl, rfl⟩
theorem room11_nil (w : World) : Calls Try.prog 37 #[.pointer none] w (Rets (Only (.int .i64 (-1)) w)) := by
  go_enter Try.func37, Try.ntmps37
  go_wp2
  go_ret
  exact ⟨rfl, rfl⟩
theorem all_nil (w : World) : Calls Try.prog 28 #[.pointer none] w (Rets (Only (.slice none 0 0) w)) := by
  go_enter Try.func28, Try.ntmps28
  go_wp2
  go_ret
  exact ⟨rfl, rfl⟩
theorem scan_nil (w : World) (a b : ByteArray) (m : Int) : Calls Try.prog 27 #[.pointer none, .string a, .string b, .int .i64 m] w (Rets (Only (.slice none 0 0) w)) := by
  have HA := Lib.hid (all_nil w)
  go_enter Try.func27, Try.ntmps27
  go_wp2_with (go_at_call 28; refine Rets.use HA.out ?_; rintro _ _ ⟨rfl, rfl⟩)
  go_loopw [9, 15] (fun ov iv wr => ov = .slice none 0 0 ∧ iv = .int .i64 0 ∧ wr = w) (fun _ _ _ => 0)
  case atStart => exact ⟨rfl, rfl, rfl⟩
  case round =>
    obtain ⟨rfl, rfl, rfl⟩ := hrel
    go_wp2
    go_ret
    exact ⟨rfl, rfl⟩
theorem commit_nil (w : World) (v : Value) : Calls Try.prog 26 #[.pointer none, v] w (Rets (Only (.int .i64 1) w)) := by
  go_enter Try.func26, Try.ntmps26
  go_wp2
  go_ret
  exact ⟨rfl, rfl⟩
theorem commit_plain {w : World} {x : Nat} (c0 : w.cell? ⟨x, 0, none⟩ = some (.pointer none)) (v : Value) : Calls Try.prog 26 #[.pointer (some ⟨x, 0, none⟩), v] w (Rets (Only (.int .i64 1) w)) := by
  go_enter Try.func26, Try.ntmps26
  go_wp2
  go_ret
  exact ⟨rfl, rfl⟩
theorem commit_no {w : World} {p : Value} (h : p = .pointer none ∨ ∃ x, p = .pointer (some ⟨x, 0, none⟩) ∧ w.cell? ⟨x, 0, none⟩ = some (.pointer none)) (v : Value) : Calls Try.prog 26 #[p, v] w (Rets (Only (.int .i64 1) w)) := by
  rcases h with rfl | ⟨x, rfl, h⟩
  · exact commit_nil w v
  · exact commit_plain h v
theorem open11_nil (w : World) : Calls Try.prog 24 #[.pointer none, .int .i64 5] w (Rets (Only (.tuple #[.pointer none, .int .i64 1]) w)) := by
  have HO := Lib.hid (open_nob (w := w) (p := .pointer none) (.inl rfl))
  go_enter Try.func24, Try.ntmps24
  go_wp2_with (go_at_call 50; refine Rets.use HO.out ?_; rintro _ _ ⟨rfl, rfl⟩)
  go_ret2
  exact ⟨rfl, rfl⟩
/-! ### the arguments -/
abbrev KChg : Kd := .slice (.st (.fld .str (.fld .bool (.fld (.slice (.int .u8)) .fin))))
def toC (d : ByteArray × Bool × List Int × Unit) : Chg := ⟨bytesOf d.1, d.2.1, d.2.2.1⟩
theorem bytesOf_len (s : ByteArray) : (bytesOf s).length = s.size := by
  have := str_size (bytesOf s)
  rw [← str_of] at this
  exact this.symm
theorem chg_byte {w : World} {v : Value} {l : List Int} (h : Has w (.slice (.int .u8)) [v] l) : IsB l := by
  obtain ⟨A, c, _, _, _, _, h5⟩ := h
  intro x hx
  obtain ⟨i, hi, rfl⟩ := List.getElem_of_mem hx
  obtain ⟨a, es, _, _, _, h6⟩ := h5 i l[i] (List.getElem?_eq_getElem hi)
  have := h6.2
  simp [Lit.wf, IntKind.min, IntKind.max, IntKind.signed, IntKind.bits] at this
  omega
theorem KChg_of {W : World} {A : Option Addr} {n c : Nat} {x : List (ByteArray × Bool × List Int × Unit)} (H : Has W KChg [.slice A n c] x) : ∃ l : List Chg, ChgW l ∧ l.length ≤ maxLen ∧ Chgs W (fun k => k < W.heap.size) (.slice A n c) l := by
  obtain ⟨A', c', e, hlc, hcm, hz, hin⟩ := id H
  cases e
  refine ⟨x.map toC, ?_, by rw [List.length_map]; exact Nat.le_trans hlc hcm, A, c, by rw [List.length_map]; rfl, by rw [List.length_map]; exact hlc, hz, ?_⟩
  · intro d hd
    obtain ⟨y, hy, rfl⟩ := List.mem_map.1 hd
    obtain ⟨i, hi⟩ := List.mem_iff_getElem?.1 hy
    obtain ⟨a, es, _, _, _, hh⟩ := hin i y hi
    obtain ⟨c0, r0, _, _, ⟨_, hs⟩, c1, r1, _, _, _, c2, r2, _, h3, hb, _⟩ := hh
    obtain ⟨v, rfl⟩ : ∃ v, c2 = [v] := by
      cases c2 with
      | nil => cases h3
      | cons v t => cases t with
        | nil => exact ⟨v, rfl⟩
        | cons => cases h3
    exact ⟨bytesOf_byte _, chg_byte hb, by show (bytesOf y.1).length ≤ maxLen; rw [bytesOf_len]; exact hs, (Has.bytes hb).2⟩
  · intro i d hi
    rw [List.getElem?_map] at hi
    cases hx : x[i]? with
    | none => rw [hx] at hi; cases hi
    | some y =>
      rw [hx] at hi
      simp only [Option.map_some, Option.some.injEq] at hi
      subst hi
      have hpos : 0 < x.length := by have := (List.getElem?_eq_some_iff.1 hx).1; omega
      obtain ⟨b, o, c', e, _, _, hbW⟩ := Has.plain H (by decide) hpos
      cases e
      obtain ⟨es, hes, hcell, hh⟩ := Has.elem H hx
      obtain ⟨c0, r0, rfl, _, ⟨rfl, hs⟩, c1, r1, rfl, _, rfl, c2, r2, rfl, h3, hb, rfl⟩ := hh
      obtain ⟨v, rfl⟩ : ∃ v, c2 = [v] := by
        cases c2 with
        | nil => cases h3
        | cons v t => cases t with
          | nil => exact ⟨v, rfl⟩
          | cons => cases h3
      refine ⟨b, o, rfl, hbW, v, ?_, ?_, ?_, (Has.bytes hb).1⟩
      · have := hcell 0 _ rfl
        show W.cell? ⟨b, o + i * 3, none⟩ = some (.string (str (bytesOf y.1)))
        rw [← str_of]
        exact this
      · have := hcell 1 _ rfl
        exact this
      · have := hcell 2 _ rfl
        exact this
set_option maxHeartbeats 3200000 in
set_option maxRecDepth 100000 in
theorem nobody11_in (W : World) (v : Value) (l : List Chg) (hB : ChgW l) (hl : l.length ≤ maxLen) (h : Chgs W (fun k => k < W.heap.size) v l) (key : List Int) (m : Int) (hm : -9223372036854775808 ≤ m ∧ m ≤ 9223372036854775807) : Calls Try.prog 8 #[v, .string (str key), .int .i64 m] W (Rets (Yes W)) := by
  have HF := Lib.hid (few_c l hB hl v h (fun _ h => h))
  have HC := Lib.hid (fun w => cut4_c key 60 w)
  generalize str (key.take 60) = s60 at *
  generalize str key = s at *
  clear h hB
  go_enter Try.func8, Try.ntmps8
  go_wp2_with (first
    | (go_at_call 9; refine Rets.use HF.out ?_; rintro v1 w1 ⟨hk1, hO1⟩)
    | (go_at_call 21; refine Rets.use (HC.out _) ?_; rintro _ _ ⟨rfl, rfl⟩)
    | (go_at_call 38; refine Rets.use (get_nil _ _) ?_; rintro _ _ ⟨rfl, rfl⟩)
    | (go_at_call 24; refine Rets.use (open11_nil _) ?_; rintro _ _ ⟨rfl, rfl⟩)
    | (go_at_call 26; refine Rets.use (commit_no (by first | exact .inl rfl | exact .inr ⟨_, rfl, x0⟩) _) ?_; rintro _ _ ⟨rfl, rfl⟩)
    | ((with_reducible refine at_ 40 rfl ?_); go_must (refine step_box rfl 82 _ rfl _ rfl [.pointer none, .int .i64 0, .int .i64 0, .map none] rfl ?_); intro w4 hb4 hk4 hs4; have x0 : w4.cell? ⟨w1.heap.size, 0, none⟩ = some (.pointer none) := cell_of_row w4 _ 0 _ _ _ hb4)
    | (go_at_call 27; refine Rets.use (scan_nil _ _ _ _) ?_; rintro _ _ ⟨rfl, rfl⟩)
    | (go_at_call 28; refine Rets.use (all_nil _) ?_; rintro _ _ ⟨rfl, rfl⟩)
    | (go_at_call 35; refine Rets.use (used_nil _) ?_; rintro _ _ ⟨rfl, rfl⟩)
    | (go_at_call 37; refine Rets.use (room11_nil _) ?_; rintro _ _ ⟨rfl, rfl⟩)
    | (go_at_call 20; refine Rets.use (lives11_c _) ?_; rintro v9 w9 ⟨rfl, hk9⟩))
  go_ret
  exact ⟨rfl, (hk1.trans hk4 (fun _ _ h => h)).trans hk9 (fun _ _ h => h)⟩
theorem storeNobody_walk (W : World) (a0 : Option Addr) (len0 cap0 : Nat) (x0 : List (ByteArray × Bool × List Int × Unit)) (H0 : Has W KChg [.slice a0 len0 cap0] x0) (s : ByteArray) (hs : s.size ≤ maxLen) (m : Int) (hm : (Lit.int .i64 m).wf = true) : Calls Try.prog 8 #[.slice a0 len0 cap0, .string s, .int .i64 m] W (Rets (Yes W)) := by
  obtain ⟨l, h1, h2, h3⟩ := KChg_of H0
  rw [str_of s]
  exact nobody11_in W _ l h1 h2 h3 _ m (by simp [Lit.wf, IntKind.min, IntKind.max, IntKind.signed, IntKind.bits] at hm; omega)
end Go.Proofs.Ytbiohidelhfaiaa
