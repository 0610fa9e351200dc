/-
  The small functions of the references that all statements use: Least, Cut, Copy, Same.
-/
import Derived.Test.YtbiohidelhfaiaaCanon
import Derived.Test.YtbiohidelhfaiaaDiskM
import Derived.Test.YtbiohidelhfaiaaChecked
import Derived.WalkKit
import Derived.WalkSpells
import Derived.WalkLawsBesides
import Derived.Lib.Hide
namespace Go.Proofs.Ytbiohidelhfaiaa
open Go.RowKit Go.Canon Go.Mem
set_option linter.unusedVariables false
set_option linter.unusedSimpArgs false
/-- The value, the world as it was. -/
def Only (v : Value) (w : World) : Value → World → Prop := fun v' w' => v' = v ∧ w = w'
/-- The value; nothing that was there has turned. -/
def Still (v : Value) (w : World) : Value → World → Prop := fun v' w' => v' = v ∧ Keeps (fun _ => False) w w'
def least (n lo hi : Int) : Int := if n < lo then lo else if hi < n then hi else n
theorem least_c (n lo hi : Int) (w : World) : Calls Try.prog 22 #[.int .i64 n, .int .i64 lo, .int .i64 hi] w (Rets (Only (.int .i64 (least n lo hi)) w)) := by
  by_cases h1 : n < lo
  · have HE := Lib.hid (show least n lo hi = lo by simp [least, h1])
    go_enter Try.func22, Try.ntmps22
    go_wp2
    go_ret
    exact ⟨by rw [HE.out]; rfl, rfl⟩
  · by_cases h2 : hi < n
    · have HE := Lib.hid (show least n lo hi = hi by simp [least, h1, h2])
      go_enter Try.func22, Try.ntmps22
      go_wp2
      go_ret
      exact ⟨by rw [HE.out]; rfl, rfl⟩
    · have HE := Lib.hid (show least n lo hi = n by simp [least, h1, h2])
      go_enter Try.func22, Try.ntmps22
      go_wp2
      go_ret
      exact ⟨by rw [HE.out]; rfl, rfl⟩
/-- What a slice begins with is read as the list begins. -/
theorem Rd.front {w : World} {ok : Nat → Prop} {A : Option Addr} {n c : Nat} {cs : List Value} (h : Rd w ok (.slice A n c) n cs) (m sz : Nat) (hm : m ≤ n) (hl : cs.length = n * sz) : Rd w ok (.slice A m c) m (cs.take (m * sz)) := by
  obtain ⟨A', c', e, h2, h3, h4⟩ := h
  cases e
  refine ⟨A, c, rfl, by omega, fun e => ⟨by have := (h3 e).1; omega, (h3 e).2⟩, ?_⟩
  rcases h4 with h4 | ⟨b, o, e1, e2, e3⟩
  · exact .inl (by rw [h4, List.take_nil])
  · refine .inr ⟨b, o, e1, e2, fun j u hu => e3 j u ?_⟩
    rw [List.getElem?_take] at hu
    split at hu
    · exact hu
    · cases hu
/-- The value is one that is read so; the world as it was. -/
def Reads (ok : Nat → Prop) (n : Nat) (cs : List Value) (w : World) : Value → World → Prop := fun v' w' => Rd w ok v' n cs ∧ w = w'
theorem cut_c {ok : Nat → Prop} {w : World} (v : Value) (xs : List Int) (hr : Rd w ok v xs.length (Disk.bytes8 xs)) (n : Nat) : Calls Try.prog 10 #[v, .int .i64 n] w (Rets (Reads ok (xs.take n).length (Disk.bytes8 (xs.take n)) w)) := by
  obtain ⟨A, c, rfl, hc, _⟩ := hr.slice
  by_cases h : n < xs.length
  · have HR := Lib.hid (show Rd w ok (.slice A n c) (xs.take n).length (Disk.bytes8 (xs.take n)) by
      have h1 := Rd.front hr n 1 (by omega) (by rw [Disk.bytes8_len, Nat.mul_one])
      rw [List.length_take, Nat.min_eq_left (by omega)]
      rw [Nat.mul_one] at h1
      unfold Disk.bytes8 at *
      rw [List.map_take]; exact h1)
    clear hr
    go_enter Try.func10, Try.ntmps10
    go_wp2
    go_ret
    exact ⟨HR.out, rfl⟩
  · have HR := Lib.hid (show Rd w ok (.slice A xs.length c) (xs.take n).length (Disk.bytes8 (xs.take n)) by rw [List.take_of_length_le (by omega)]; exact hr)
    clear hr
    go_enter Try.func10, Try.ntmps10
    go_wp2
    go_ret
    exact ⟨HR.out, rfl⟩
theorem row_byte : (Try.prog.info? 5).map (fun i => (i.zero, i.size, i.bytes)) = some (some (.int .u8 0), 1, 1) := by kernel_rfl
theorem row2_byte : (Try.prog.info? 5).map (fun i => (i.zero, i.size)) = some (some (.int .u8 0), 1) := by kernel_rfl
/-- A new row. -/
def NewRow (e : TypeId) (sz n : Nat) (cs : List Value) (w : World) : Value → World → Prop := fun v' w' => OwnRow w' (fun k => w.heap.size ≤ k) e sz v' n cs ∧ Keeps (fun _ => False) w w'
theorem copy_c {ok : Nat → Prop} {w : World} (v : Value) (xs : List Int) (hr : Rd w ok v xs.length (Disk.bytes8 xs)) (hl : xs.length ≤ 140737488355328) : Calls Try.prog 11 #[v] w (Rets (NewRow 5 1 xs.length (Disk.bytes8 xs) w)) := by
  obtain ⟨A, c, hv, hc, _⟩ := hr.slice
  subst hv
  go_enter Try.func11, Try.ntmps11
  go_wp2_with ((with_reducible refine at_ 6 rfl ?_); go_must (refine step_append_rd (ok := fun _ => False) rfl _ _ _ rfl 5 _ 1 1 Try.underlying23 row_byte rfl (by decide) (.slice none 0 0) 0 [] rfl (OwnRow.nil _ _ _ _) _ xs.length (Disk.bytes8 xs) rfl hr (by rw [Disk.bytes8_len, Nat.mul_one]) (Disk.bytes8_one xs) (by simp only [maxLen]; omega) (by omega) ?_); intro v' w' ho hk)
  go_ret
  refine ⟨?_, hk.mono (fun k _ e => by simp [Value.ownBlock] at e)⟩
  rw [Nat.zero_add, List.nil_append] at ho
  exact ho.mono (fun k _ e => e.resolve_left (fun h => h))
set_option maxHeartbeats 400000 in
theorem same_c {ok ok2 : Nat → Prop} {w : World} (v v2 : Value) (xs ys : List Int) (hr : Rd w ok v xs.length (Disk.bytes8 xs)) (hr2 : Rd w ok2 v2 ys.length (Disk.bytes8 ys)) (hl : xs.length ≤ 9223372036854775807) :
    Calls Try.prog 16 #[v, v2] w (Rets (Still (.bool (decide (xs = ys))) w)) := by
  obtain ⟨A, c, rfl, hc, _⟩ := hr.slice
  obtain ⟨B, d, rfl, hd, _⟩ := hr2.slice
  by_cases hn : xs.length = ys.length
  · have hb : ((xs.length : Int) != ys.length) = false := by rw [hn]; simp
    have HN := Lib.hid hn
    have HR := Lib.hid hr
    have HR2 := Lib.hid hr2
    clear hn hr hr2
    go_enter Try.func16, Try.ntmps16
    go_wp2
    go_loopw [5] (fun i wr => ∃ k : Nat, k ≤ xs.length ∧ i = .int .i64 k ∧ Hid (xs.take k = ys.take k) ∧ Keeps (fun _ => False) w wr) (fun i _ => xs.length - (intOf i).toNat)
    case atStart => exact ⟨0, Nat.zero_le _, rfl, rfl, Keeps.refl _ w⟩
    case round =>
      obtain ⟨k, hk, rfl, HT, hK⟩ := hrel
      by_cases hlt : k < xs.length
      · have hlt2 : k < ys.length := by have := HN.out; omega
        obtain ⟨b1, o1, c1, e1, _, _, f1⟩ := (HR.out.kept hK (fun _ _ h => h)).at (by intro e; have := congrArg List.length e; rw [Disk.bytes8_len, List.length_nil] at this; omega)
        obtain ⟨b2, o2, c2, e2, _, _, f2⟩ := (HR2.out.kept hK (fun _ _ h => h)).at (by intro e; have := congrArg List.length e; rw [Disk.bytes8_len, List.length_nil] at this; omega)
        cases e1
        cases e2
        have g1 : wr.cell? ⟨b1, o1 + k, none⟩ = some (.int .u8 xs[k]) := f1 k _ (by simp [Disk.bytes8, hlt])
        have g2 : wr.cell? ⟨b2, o2 + k, none⟩ = some (.int .u8 ys[k]) := f2 k _ (by simp [Disk.bytes8, hlt2])
        have HT1 := Lib.hid (show xs.take (k + 1) = xs.take k ++ [xs[k]] by rw [List.take_add_one, List.getElem?_eq_getElem hlt]; rfl)
        have HT2 := Lib.hid (show ys.take (k + 1) = ys.take k ++ [ys[k]] by rw [List.take_add_one, List.getElem?_eq_getElem hlt2]; rfl)
        have HX := Lib.hid (show xs = ys → xs[k] = ys[k] by intro e; subst e; rfl)
        generalize xs[k] = x at *
        generalize ys[k] = y at *
        clear f1 f2
        by_cases he : x = y
        · have hb2 : (x != y) = false := by rw [he]; simp
          have HE := Lib.hid he
          clear he
          go_wp2
          refine Canon.row [0, 1, 2, 4, 5, 6, 3, 7, 8] (by kernel_rfl) (by kernel_rfl) (by repeat (first | (with_reducible exact Safe.body) | (with_reducible apply Safe.then) | (with_reducible apply Safe.inBlock) | (dsimp +zetaDelta only))) ?_
          simp only [Canon.pick, Canon.wpPlan, List.getElem?_toArray, List.getElem?_cons_zero, List.getElem?_cons_succ]
          go_wp2
          refine ⟨by rfl, trivial, ?_⟩
          go_wp2
          go_roundw
          case rel => exact ⟨k + 1, by omega, by go_num, by show _ = _; rw [HT1.out, HT2.out, HT.out, HE.out], hK.drew⟩
          case measure => simp [intOf]; omega
        · have hb2 : (x != y) = true := by simpa using he
          have HE := Lib.hid (show decide (xs = ys) = false by rw [decide_eq_false_iff_not]; intro e; exact he (HX.out e))
          clear he
          go_wp2
          refine Canon.row [0, 1, 2, 4, 5, 6, 3, 7, 8] (by kernel_rfl) (by kernel_rfl) (by repeat (first | (with_reducible exact Safe.body) | (with_reducible apply Safe.then) | (with_reducible apply Safe.inBlock) | (dsimp +zetaDelta only))) ?_
          simp only [Canon.pick, Canon.wpPlan, List.getElem?_toArray, List.getElem?_cons_zero, List.getElem?_cons_succ]
          go_wp2
          refine ⟨by rfl, trivial, ?_⟩
          go_wp2
          go_ret
          exact ⟨by rw [HE.out]; rfl, hK.drew⟩
      · have HE := Lib.hid (show decide (xs = ys) = true by
          rw [decide_eq_true_eq]
          have h1 := HT.out
          have h2 := HN.out
          rw [List.take_of_length_le (by omega), List.take_of_length_le (by omega)] at h1
          exact h1)
        go_wp2
        go_ret
        exact ⟨by rw [HE.out]; rfl, hK⟩
  · have hb : ((xs.length : Int) != ys.length) = true := by simp; omega
    have HE := Lib.hid (show decide (xs = ys) = false by rw [decide_eq_false_iff_not]; intro e; exact hn (by rw [e]))
    clear hn hr hr2
    go_enter Try.func16, Try.ntmps16
    go_wp2
    go_ret
    exact ⟨by rw [HE.out]; rfl, Keeps.refl _ w⟩
end Go.Proofs.Ytbiohidelhfaiaa
