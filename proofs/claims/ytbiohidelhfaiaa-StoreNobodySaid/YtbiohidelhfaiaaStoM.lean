/-
  A store's map in memory; cost.
-/
import Derived.Test.YtbiohidelhfaiaaEncW
import Derived.Maps.OwnSet
import Derived.Maps.Views
import Derived.StringKeys
namespace Go.Proofs.Ytbiohidelhfaiaa
open Go.RowKit Go.Canon Go.Mem
open Go.Proofs.Ytbiohidelhfaiaa.Sto (Chg)
set_option linter.unusedVariables false
set_option linter.unusedSimpArgs false
namespace Sto
/-! ### what is held, plainly -/
abbrev Mp := List (List Int × List Int)
def look (M : Mp) (k : List Int) : Option (List Int) := (M.find? fun p => decide (p.1 = k)).map (·.2)
def del (M : Mp) (k : List Int) : Mp := M.filter fun p => decide (p.1 ≠ k)
def put (M : Mp) (k v : List Int) : Mp := (k, v) :: del M k
def costF (M : Mp) (k : List Int) : Int := match look M k with
  | none => 0
  | some v => k.length + v.length
def do1 (M : Mp) (c : Chg) : Mp := if c.del = true then del M c.key else put M c.key c.val
theorem look_put (M : Mp) (k v : List Int) : look (put M k v) k = some v := by simp [look, put]
theorem look_del (M : Mp) (k : List Int) : look (del M k) k = none := by
  unfold look del
  rw [List.find?_eq_none.2]
  · rfl
  · intro p hp
    have := (List.mem_filter.1 hp).2
    simpa using this
theorem look_del_other (M : Mp) {k k' : List Int} (h : k' ≠ k) : look (del M k) k' = look M k' := by
  unfold look del
  congr 1
  induction M with
  | nil => rfl
  | cons p M ih =>
    by_cases hp : p.1 = k
    · rw [List.filter_cons_of_neg (by simpa using hp), List.find?_cons_of_neg (by rw [hp]; simpa using Ne.symm h), ih]
    · rw [List.filter_cons_of_pos (by simpa using hp)]
      by_cases hp2 : p.1 = k'
      · rw [List.find?_cons_of_pos (by simpa using hp2), List.find?_cons_of_pos (by simpa using hp2)]
      · rw [List.find?_cons_of_neg (by simpa using hp2), List.find?_cons_of_neg (by simpa using hp2), ih]
theorem look_put_other (M : Mp) {k k' : List Int} (v : List Int) (h : k' ≠ k) : look (put M k v) k' = look M k' := by
  have : look (put M k v) k' = look (del M k) k' := by
    unfold look put
    rw [List.find?_cons_of_neg (by simpa using Ne.symm h)]
  rw [this, look_del_other M h]
end Sto
/-! ### in memory -/
def Rv (v : Value) : Option (DataW Value × List MemPlace) := some (.held v, [])
theorem strLaw : Maps.Keyed Try.prog 9 := Maps.string_keyed Try.underlying9
theorem zeroE (w : World) : (zeroValue 23).run Try.prog w = .ok (.slice none 0 0) w := by kernel_rfl
def keyLit (k : List Int) : Lit := .string (str k).data.toList
theorem keyLit_of (k : List Int) (h : k.length ≤ 1000000) : keyOf Try.prog 9 (.string (str k)) = some (keyLit k) := Go.WideMaps.keyOf_string_mk Try.underlying9 (by rw [str_size]; simp only [maxLen]; omega)
theorem keyLit_ne {a b : List Int} (ha : IsB a) (hb : IsB b) (h : a ≠ b) : keyLit a ≠ keyLit b := by
  intro e
  apply h
  have he := str_eq ha hb
  have : (str a).toList = (str b).toList := by
    rw [ByteArray.toList_eq, ByteArray.toList_eq]
    unfold keyLit at e
    exact Lit.string.inj e
  rw [this] at he
  simpa using he.symm
/-- The map holds that; its values lie in R. -/
def MapIs (w : World) (bm : Nat) (R : Nat → Prop) (n : Nat) (M : Sto.Mp) : Prop := ∃ D, w.ownsMap Try.prog 9 Rv bm n D ∧ ∀ k : List Int, IsB k → match Sto.look M k with
  | none => Maps.has D (keyLit k) = false
  | some val => Maps.has D (keyLit k) = true ∧ ∃ v, D.atKey (keyLit k) (.held (.slice none 0 0)) = .held v ∧ OwnRow w R 5 1 v val.length (Disk.bytes8 val) ∧ val.length ≤ 1000000
set_option maxHeartbeats 1600000 in
set_option maxRecDepth 100000 in
theorem cost_c {w : World} {x bm n : Nat} {R : Nat → Prop} {M : Sto.Mp} (c3 : w.cell? ⟨x, 3, none⟩ = some (.map (some bm))) (hm : MapIs w bm R n M) (k : List Int) (hB : IsB k) (hl : k.length ≤ 1000000) : Calls Try.prog 53 #[.pointer (some ⟨x, 0, none⟩), .string (str k)] w (Rets (Only (.int .i64 (Sto.costF M k)) w)) := by
  obtain ⟨D, hown, hin⟩ := hm
  have hs := str_size k
  obtain ⟨v, ps, hrun, hv⟩ := hown.look_ok strLaw Try.underlying80 (zeroE w) (show Rv (.slice none 0 0) = some (.held (.slice none 0 0), []) from rfl) (keyLit_of k hl)
  have hk := hin k hB
  have HC := Lib.hid (show Sto.costF M k = match Sto.look M k with | none => 0 | some v => (k.length : Int) + v.length from rfl)
  generalize str k = s at *
  cases hL : Sto.look M k with
  | none =>
    rw [hL] at hk HC
    simp only at hk HC
    rw [hk] at hrun
    clear hown hin hv hL
    go_enter Try.func53, Try.ntmps53
    go_wp2
    go_ret
    exact ⟨by rw [HC.out] <;> rfl, rfl⟩
  | some val =>
    rw [hL] at hk HC
    simp only at hk HC
    obtain ⟨h1, u, h2, hO, hc3⟩ := hk
    rw [h1] at hrun
    rw [h2] at hv
    obtain rfl : v = u := by
      simp only [Rv, Option.some.injEq, Prod.mk.injEq, DataW.held.injEq] at hv
      exact hv.1
    obtain ⟨A, c, rfl, hc1, hc2, _⟩ := hO.slice
    clear hown hin hv hL hO h2
    go_enter Try.func53, Try.ntmps53
    go_wp2
    go_ret
    exact ⟨by rw [HC.out] <;> rfl, rfl⟩
end Go.Proofs.Ytbiohidelhfaiaa
