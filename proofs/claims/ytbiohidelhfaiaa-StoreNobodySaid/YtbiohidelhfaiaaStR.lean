/-
  The walk of piece.
-/
import Derived.Test.YtbiohidelhfaiaaStrd
import Derived.Test.YtbiohidelhfaiaaMid
namespace Go.Proofs.Ytbiohidelhfaiaa
open Go.RowKit Go.Canon Go.Mem
set_option linter.unusedVariables false
set_option linter.unusedSimpArgs false
theorem rd_le (b : List Int) (h : (Sto.rdF b).2.2 = 0) : 1 ≤ (Sto.rdF b).2.1 ∧ (Sto.rdF b).2.1 ≤ b.length := by
  have := Sto.rdGo_le b 0 0 h
  unfold Sto.rdF
  omega
theorem rdGo_err : ∀ (l : List Int) (i acc : Nat), (Sto.rdGo l i acc).2.2 = 0 ∨ (Sto.rdGo l i acc).2.2 = 3 ∨ (Sto.rdGo l i acc).2.2 = 4 := by
  intro l
  induction l with
  | nil => intro i acc; exact .inr (.inl rfl)
  | cons c r ih =>
    intro i acc
    rw [Sto.rdGo]
    split
    · exact .inr (.inr rfl)
    · split
      · split
        · exact .inr (.inr rfl)
        · exact .inl rfl
      · exact ih _ _
theorem rdGo_lt : ∀ (l : List Int) (i acc : Nat), IsB l → i ≤ 9 → acc < 128 ^ i → (Sto.rdGo l i acc).1 < 18446744073709551616 := by
  intro l
  induction l with
  | nil => intro i acc _ _ _; exact (by decide : (0 : Nat) < 18446744073709551616)
  | cons c r ih =>
    intro i acc hB hi ha
    have hc := hB c (List.mem_cons_self ..)
    rw [Sto.rdGo]
    split
    · exact (by decide : (0 : Nat) < 18446744073709551616)
    · rename_i h1
      split
      · rename_i h2
        split
        · exact (by decide : (0 : Nat) < 18446744073709551616)
        · show acc + c.toNat * 128 ^ i < 18446744073709551616
          have : i = 0 ∨ i = 1 ∨ i = 2 ∨ i = 3 ∨ i = 4 ∨ i = 5 ∨ i = 6 ∨ i = 7 ∨ i = 8 ∨ i = 9 := by omega
          have h9 : i = 9 → c ≤ 1 := fun h => by
            rcases Int.lt_or_le 1 c with h3 | h3
            · exact (h1 ⟨h, h3⟩).elim
            · exact h3
          rcases this with rfl | rfl | rfl | rfl | rfl | rfl | rfl | rfl | rfl | rfl
          all_goals (try have := h9 rfl); omega
      · rename_i h2
        have hi2 : i + 1 ≤ 9 := by
          rcases Nat.lt_or_ge i 9 with h | h
          · omega
          · exact (h1 ⟨by omega, by omega⟩).elim
        refine ih (i + 1) _ (fun y hy => hB y (List.mem_cons_of_mem _ hy)) hi2 ?_
        have h3 : (c.toNat - 128) * 128 ^ i ≤ 127 * 128 ^ i := Nat.mul_le_mul_right _ (by omega)
        have : (128 : Nat) ^ (i + 1) = 128 * 128 ^ i := by rw [Nat.pow_succ, Nat.mul_comm]
        omega
theorem rdF_lt (b : List Int) (hB : IsB b) : (Sto.rdF b).1 < 18446744073709551616 := rdGo_lt b 0 0 hB (by decide) (by decide)
/-- A piece and what is behind it: both are read where the whole is. -/
def PieceIs (w : World) (ok : Nat → Prop) (r : Option (List Int × List Int)) : Value → World → Prop := fun v w' => Keeps (fun _ => False) w w' ∧ match r with
  | none => v = .tuple #[.slice none 0 0, .slice none 0 0, .bool false]
  | some (k, r) => ∃ a c, v = .tuple #[a, c, .bool true] ∧ Rd w' ok a k.length (Disk.bytes8 k) ∧ Rd w' ok c r.length (Disk.bytes8 r)
set_option maxHeartbeats 1600000 in
set_option maxRecDepth 100000 in
theorem piece_c {ok : Nat → Prop} {w : World} (v : Value) (b : List Int) (hr : Rd w ok v b.length (Disk.bytes8 b)) (hB : IsB b) (hl : b.length ≤ 1000000) : Calls Try.prog 65 #[v] w (Rets (PieceIs w ok (Sto.piece b))) := by
  obtain ⟨A, c, rfl, _⟩ := hr.slice
  have HR := Lib.hid hr
  have HV := Lib.hid (rdvar_c _ b hr hB hl)
  have HP := Lib.hid (show Sto.piece b = if (Sto.rdF b).2.2 ≠ 0 ∨ b.length - (Sto.rdF b).2.1 < (Sto.rdF b).1 then none else some ((b.drop (Sto.rdF b).2.1).take (Sto.rdF b).1, b.drop ((Sto.rdF b).2.1 + (Sto.rdF b).1)) from rfl)
  have hle := rd_le b
  have hx := rdF_lt b hB
  clear hr hB
  generalize Sto.rdF b = q at *
  obtain ⟨x, n, e⟩ := q
  simp only at HP HV hle hx
  by_cases he : e = 0
  · subst he
    obtain ⟨h1, h2⟩ := hle rfl
    clear hle
    by_cases hs : b.length - n < x
    · have HE := Lib.hid (show Sto.piece b = none by rw [HP.out, if_pos (.inr hs)])
      have hs' : (b.length : Int) - n < x := by omega
      go_enter Try.func65, Try.ntmps65
      go_wp2_with (go_at_call 43; refine Rets.use HV.out ?_; rintro _ _ ⟨rfl, rfl⟩)
      go_ret3
      rw [HE.out]
      exact ⟨Keeps.refl _ _, rfl⟩
    · have HE := Lib.hid (show Sto.piece b = some ((b.drop n).take x, b.drop (n + x)) by rw [HP.out, if_neg (by rintro (h | h); exact h rfl; exact hs h)])
      have hs' : (x : Int) ≤ (b.length : Int) - n := by omega
      have hxl : (x : Int) ≤ 1000000 := by omega
      go_enter Try.func65, Try.ntmps65
      go_wp2_with (go_at_call 43; refine Rets.use HV.out ?_; rintro _ _ ⟨rfl, rfl⟩)
      have HRd := Lib.hid (HR.out.kept ((Keeps.refl (fun _ => False) w).drew) (fun _ _ h => h))
      have KD : Keeps (fun _ => False) w w.drew := (Keeps.refl _ w).drew
      refine Canon.row [0, 1, 2, 3, 4, 5, 6, 7, 8, 9] (by kernel_rfl) (by kernel_rfl) (by repeat (first | (with_reducible exact Safe.body) | (with_reducible apply Safe.then) | (with_reducible apply Safe.inBlock) | (dsimp +zetaDelta only))) ?_
      simp only [Canon.pick, Canon.wpPlan, List.getElem?_toArray, List.getElem?_cons_zero, List.getElem?_cons_succ]
      generalize w.drew = wd at *
      go_wp2_with (first
        | ((with_reducible refine at_ 33 rfl ?_); go_loud (refine step_slice_mid rfl _ _ _ _ rfl under_elem info_elem A b.length c n (n + x) .i64 .i64 _ rfl rfl (by go_num) (by omega) (by omega) HRd.out (Disk.bytes8_len b) ?_); intro v3 hr3)
        | ((with_reducible refine at_ 36 rfl ?_); go_loud (refine step_slice_from rfl _ _ _ rfl 5 under_elem info_elem A b.length c (n + x) .i64 _ rfl (by go_num) (by omega) HRd.out (Disk.bytes8_len b) ?_); intro v6 hr6))
      refine ⟨by rfl, trivial, ?_⟩
      go_wp2
      go_ret3
      rw [HE.out]
      refine ⟨KD, _, _, rfl, ?_, ?_⟩
      · rw [mid8] at hr3
        have e : ((b.drop n).take x).length = n + x - n := by rw [List.length_take, List.length_drop]; omega
        rw [e]
        rw [show n + x - n = x by omega] at hr3 ⊢
        exact hr3
      · rw [drop8] at hr6
        rw [List.length_drop]
        exact hr6
  · have HE := Lib.hid (show Sto.piece b = none by rw [HP.out, if_pos (.inl he)])
    have hq : (e != 0) = true := by simpa using he
    go_enter Try.func65, Try.ntmps65
    go_wp2_with (go_at_call 43; refine Rets.use HV.out ?_; rintro _ _ ⟨rfl, rfl⟩)
    go_ret3
    rw [HE.out]
    exact ⟨Keeps.refl _ _, rfl⟩
end Go.Proofs.Ytbiohidelhfaiaa
