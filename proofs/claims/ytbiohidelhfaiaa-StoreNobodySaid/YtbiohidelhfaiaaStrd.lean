/-
  The walk of ReadVar.
-/
import Derived.Test.YtbiohidelhfaiaaStV
import Derived.Laws.Bits64b
namespace Go.Proofs.Ytbiohidelhfaiaa
open Go.RowKit Go.Canon Go.Mem
set_option linter.unusedVariables false
set_option linter.unusedSimpArgs false
theorem wrapU {x : Int} (h0 : 0 ≤ x) (h1 : x < 18446744073709551616) : IntKind.u64.wrap x = x := by
  simp [IntKind.wrap, IntKind.bits, IntKind.signed]; omega
theorem and127 {y : Int} (h : 0 ≤ y ∧ y < 256) : bits .and .u8 y 127 = ((y.toNat % 128 : Nat) : Int) := by
  have h2 : ∀ m : Fin 256, bits .and .u8 ((m.val : Nat) : Int) 127 = ((m.val % 128 : Nat) : Int) := by decide +kernel
  have := h2 ⟨y.toNat, by omega⟩
  simp only at this
  rw [show ((y.toNat : Nat) : Int) = y by omega] at this
  exact this
theorem acc_or {k x : Nat} (hk : k ≤ 9) (hx : x < 128 ^ k) {y : Int} (hy : 0 ≤ y ∧ y < 256) (h9 : k = 9 → y ≤ 1) : bits .or .u64 (x : Int) (IntKind.u64.wrap (IntKind.u64.wrap (bits .and .u8 y 127) * 2 ^ (7 * k))) = ((x + y.toNat % 128 * 128 ^ k : Nat) : Int) := by
  have hp : (128 : Nat) ^ k = 2 ^ (7 * k) := by rw [show (128 : Nat) = 2 ^ 7 from rfl, ← Nat.pow_mul]
  have hpi : (2 : Int) ^ (7 * k) = ((128 ^ k : Nat) : Int) := by rw [hp]; norm_cast
  have hm : y.toNat % 128 * 128 ^ k < 9223372036854775809 ∧ (k = 9 → y.toNat % 128 ≤ 1) := by
    have : k = 0 ∨ k = 1 ∨ k = 2 ∨ k = 3 ∨ k = 4 ∨ k = 5 ∨ k = 6 ∨ k = 7 ∨ k = 8 ∨ k = 9 := by omega
    rcases this with rfl | rfl | rfl | rfl | rfl | rfl | rfl | rfl | rfl | rfl
    all_goals (try have := h9 rfl); omega
  have hx2 : x < 18446744073709551616 := by
    have : (128 : Nat) ^ k ≤ 128 ^ 9 := Nat.pow_le_pow_right (by decide) hk
    have : (128 : Nat) ^ 9 = 9223372036854775808 := by decide
    omega
  have e1 : IntKind.u64.wrap ((y.toNat % 128 : Nat) : Int) = ((y.toNat % 128 : Nat) : Int) := wrapU (by omega) (by omega)
  rw [and127 hy, e1, hpi, ← Int.natCast_mul, wrapU (by omega) (by omega), bits_or_u64_nat _ _ hx2 (by omega)]
  congr 1
  rw [hp] at hx ⊢
  rw [Nat.or_comm, Nat.mul_comm, ← Nat.two_pow_add_eq_or_of_lt hx]
  omega
set_option maxHeartbeats 1600000 in
set_option maxRecDepth 100000 in
theorem rdvar_c {ok : Nat → Prop} {w : World} (v : Value) (l : List Int) (hr : Rd w ok v l.length (Disk.bytes8 l)) (hB : IsB l) (hl : l.length ≤ 1000000) : Calls Try.prog 43 #[v] w (Rets (Only (.tuple #[.int .u64 (Sto.rdF l).1, .int .i64 (Sto.rdF l).2.1, .int .i64 (Sto.rdF l).2.2]) w)) := by
  obtain ⟨A, c, rfl, _⟩ := hr.slice
  have HR := Lib.hid hr
  have HB := Lib.hid hB
  clear hr hB
  go_enter Try.func43, Try.ntmps43
  go_wp2
  go_loopw [5, 10] (fun xv iv wr => ∃ k x : Nat, xv = .int .u64 x ∧ iv = .int .i64 k ∧ k ≤ l.length ∧ k ≤ 9 ∧ x < 128 ^ k ∧ wr = w ∧ Hid (Sto.rdF l = Sto.rdGo (l.drop k) k x)) (fun _ iv _ => l.length - (intOf iv).toNat)
  case atStart => exact ⟨0, 0, rfl, rfl, Nat.zero_le _, by decide, by decide, rfl, rfl⟩
  case round =>
    obtain ⟨k, x, rfl, rfl, hk, hk9, hx, rfl, HF⟩ := hrel
    by_cases hlt : k < l.length
    · obtain ⟨b, o, c', e, _, hbW, hcell⟩ := HR.out.at (by intro e; have := congrArg List.length e; rw [Disk.bytes8_len, List.length_nil] at this; omega)
      cases e
      have cx : wr.cell? ⟨b, o + k, none⟩ = some (.int .u8 l[k]) := hcell k _ (by simp [Disk.bytes8, hlt])
      have hb := HB.out _ (List.getElem_mem hlt)
      have HF2 := Lib.hid (show Sto.rdF l = Sto.rdGo (l[k] :: l.drop (k + 1)) k x by rw [HF.out, List.drop_eq_getElem_cons hlt])
      clear hcell
      generalize l[k] = y at *
      by_cases hf : k = 9 ∧ 1 < y
      · obtain ⟨rfl, hy1⟩ := hf
        have HE := Lib.hid (show Sto.rdF l = (0, 0, 4) by rw [HF2.out, Sto.rdGo, if_pos ⟨rfl, hy1⟩])
        go_wp2
        go_ret3
        rw [HE.out]
        exact ⟨rfl, rfl⟩
      · have HA := Lib.hid (acc_or hk9 hx hb (fun h => by omega))
        by_cases hy : y < 128
        · by_cases hz : y = 0 ∧ 0 < k
          · obtain ⟨rfl, hk0⟩ := hz
            have HE := Lib.hid (show Sto.rdF l = (0, 0, 4) by rw [HF2.out, Sto.rdGo, if_neg hf, if_pos hy, if_pos ⟨rfl, hk0⟩])
            have hk0 : (0 : Int) < k := by omega
            by_cases h9 : k = 9
            · subst h9
              go_wp2
              go_ret3
              rw [HE.out]
              exact ⟨rfl, rfl⟩
            · have hq : (((k : Int)) == 9) = false := by rw [beq_eq_false_iff_ne]; omega
              go_wp2
              go_ret3
              rw [HE.out]
              exact ⟨rfl, rfl⟩
          · have HE := Lib.hid (show Sto.rdF l = (x + y.toNat * 128 ^ k, k + 1, 0) by rw [HF2.out, Sto.rdGo, if_neg hf, if_pos hy, if_neg hz])
            rw [show y.toNat % 128 = y.toNat by omega] at HA
            by_cases hy0 : y = 0
            · obtain rfl : k = 0 := by omega
              subst hy0
              have cx' : wr.cell? ⟨b, o, none⟩ = some (.int .u8 0) := cx
              go_wp2
              go_ret3
              rw [HE.out]
              exact ⟨by first | (rw [← HA.out]; rfl) | (simp [HA.out]), rfl⟩
            · have hq0 : (y == 0) = false := by rw [beq_eq_false_iff_ne]; exact hy0
              by_cases h9 : k = 9
              · subst h9
                have hy1 : y ≤ 1 := by omega
                go_wp2
                go_ret3
                rw [HE.out]
                exact ⟨by first | (rw [← HA.out]; rfl) | (simp [HA.out]), rfl⟩
              · have hq : (((k : Int)) == 9) = false := by rw [beq_eq_false_iff_ne]; omega
                go_wp2
                go_ret3
                rw [HE.out]
                exact ⟨by first | (rw [← HA.out]; rfl) | (simp [HA.out]), rfl⟩
        · have HE := Lib.hid (show Sto.rdF l = Sto.rdGo (l.drop (k + 1)) (k + 1) (x + (y.toNat - 128) * 128 ^ k) by rw [HF2.out, Sto.rdGo, if_neg hf, if_neg hy])
          have hn : k < 9 := by omega
          rw [show y.toNat % 128 = y.toNat - 128 by omega] at HA
          have hq : (((k : Int)) == 9) = false := by rw [beq_eq_false_iff_ne]; omega
          have HX := Lib.hid (show x + (y.toNat - 128) * 128 ^ k < 128 ^ (k + 1) by
            have : (128 : Nat) ^ (k + 1) = 128 * 128 ^ k := by rw [Nat.pow_succ, Nat.mul_comm]
            have h2 : (y.toNat - 128) * 128 ^ k ≤ 127 * 128 ^ k := Nat.mul_le_mul_right _ (by omega)
            omega)
          go_wp2
          go_roundw
          case rel => exact ⟨k + 1, x + (y.toNat - 128) * 128 ^ k, by rw [HA.out], by go_num, hlt, by omega, HX.out, by trivial, HE⟩
          case measure => simp [intOf]; omega
    · obtain rfl : k = l.length := by omega
      have HE := Lib.hid (show Sto.rdF l = (0, 0, 3) by rw [HF.out, List.drop_length]; rfl)
      go_wp2
      go_ret3
      rw [HE.out]
      exact ⟨rfl, rfl⟩
end Go.Proofs.Ytbiohidelhfaiaa
