/-
  Texts as lists of bytes: what a string is, its bytes, its pieces.
-/
import Derived.Test.YtbiohidelhfaiaaSmall
import Derived.Test.YtbiohidelhfaiaaMem3
import Derived.Test.YtbiohidelhfaiaaByte
import Derived.Test.YtbiohidelhfaiaaLit
namespace Go.Proofs.Ytbiohidelhfaiaa
open Go.RowKit Go.Canon Go.Mem
set_option linter.unusedVariables false
set_option linter.unusedSimpArgs false
/-- The text of these bytes. -/
def str (l : List Int) : ByteArray := ⟨(l.map fun x => UInt8.ofNat x.toNat).toArray⟩
theorem str_size (l : List Int) : (str l).size = l.length := by simp [str, ByteArray.size]
theorem str_toList (l : List Int) : (str l).data.toList = l.map fun x => UInt8.ofNat x.toNat := by simp [str]
theorem byte_back {x : Int} (h : 0 ≤ x ∧ x < 256) : ((UInt8.ofNat x.toNat).toNat : Int) = x := by
  have : (UInt8.ofNat x.toNat).toNat = x.toNat % 256 := by simp
  rw [this]; omega
def bytesOf (s : ByteArray) : List Int := s.data.toList.map fun b => (b.toNat : Int)
theorem bytesOf_byte (s : ByteArray) : IsB (bytesOf s) := fun x hx => by
  unfold bytesOf at hx
  rw [List.mem_map] at hx
  obtain ⟨b, _, rfl⟩ := hx
  have := b.toNat_lt
  omega
theorem str_of (s : ByteArray) : s = str (bytesOf s) := by
  apply ByteArray.ext
  apply Array.ext'
  rw [str_toList]
  unfold bytesOf
  rw [List.map_map]
  conv => lhs; rw [← List.map_id s.data.toList]
  apply List.map_congr_left
  intro b _
  simp
theorem str_inj {a b : List Int} (ha : IsB a) (hb : IsB b) (h : str a = str b) : a = b := by
  have h1 : (str a).data.toList.map (fun b => (b.toNat : Int)) = (str b).data.toList.map (fun b => (b.toNat : Int)) := by rw [h]
  rw [str_toList, str_toList, List.map_map, List.map_map] at h1
  have h2 : ∀ l : List Int, IsB l → l.map ((fun b : UInt8 => (b.toNat : Int)) ∘ fun x : Int => UInt8.ofNat x.toNat) = l := fun l hl => by
    conv => rhs; rw [← List.map_id l]
    apply List.map_congr_left
    intro x hx
    exact byte_back (hl x hx)
  rwa [h2 a ha, h2 b hb] at h1
theorem str_eq {a b : List Int} (ha : IsB a) (hb : IsB b) : ((str a).toList == (str b).toList) = decide (a = b) := by
  rw [ByteArray.toList_eq, ByteArray.toList_eq] 
  by_cases h : a = b
  · subst h; simp
  · rw [decide_eq_false h]
    simp only [beq_eq_false_iff_ne, ne_eq]
    intro h'
    apply h
    apply str_inj ha hb
    apply ByteArray.ext
    apply Array.ext'
    exact h'
theorem str_app (a b : List Int) : str a ++ str b = str (a ++ b) := by
  apply ByteArray.ext
  apply Array.ext'
  simp [str]
theorem str_cut (l : List Int) (i j : Nat) : (str l).extract i j = str ((l.drop i).take (j - i)) := by
  unfold str
  rw [ByteArray.extract_mk, List.map_take, List.map_drop]
theorem str_at {l : List Int} (h : IsB l) {k : Nat} (hk : k < l.length) (h' : k < (str l).size) : (((str l)[k]'h').toNat : Int) = l[k] := by
  have e : (str l)[k]'h' = UInt8.ofNat (l[k]).toNat := by
    show (str l).data[k]'_ = _
    simp [str]
  rw [e]
  exact byte_back (h _ (List.getElem_mem _))
theorem strCells_str {l : List Int} (h : IsB l) : Go.Lib.strCells (str l) = Disk.bytes8 l := by
  unfold Go.Lib.strCells Disk.bytes8
  apply List.ext_getElem
  · simp [str]
  · intro j h1 h2
    have hj : j < l.length := by simpa using h2
    have e : ((UInt8.ofNat l[j].toNat).toNat : Int) = l[j] := byte_back (h _ (List.getElem_mem _))
    simp only [str, List.getElem_map]
    simpa using e
section
variable {w : World}
theorem index_str {l : List Int} (h : IsB l) {k : Nat} (hk : k < l.length) (w : World) : (Instr.index 9 (.string (str l)) (.int .i64 k)).run Try.prog w = .ok (.int .u8 l[k]) w := by
  rw [run_index_string w 9 (str l) .i64 k Try.underlying9, dif_pos ⟨by omega, by rw [str_size]; omega⟩]
  have := str_at h hk (by rw [str_size]; exact hk)
  simp only [Int.toNat_natCast]
  rw [this]
theorem slice_str {l : List Int} {i j : Nat} (h : i ≤ j) (hj : j ≤ l.length) (w : World) : (Instr.slice 9 (.string (str l)) (some (.int .i64 i)) (some (.int .i64 j)) none).run Try.prog w = .ok (.string (str ((l.drop i).take (j - i)))) w := by
  rw [run_slice_string w 9 (str l) .i64 .i64 i j Try.underlying9 (by omega) (by omega) (by rw [str_size]; omega), Int.toNat_natCast, Int.toNat_natCast, str_cut]
theorem slice_from {l : List Int} {i : Nat} (h : i ≤ l.length) (w : World) : (Instr.slice 9 (.string (str l)) (some (.int .i64 i)) none none).run Try.prog w = .ok (.string (str (l.drop i))) w := by
  rw [run_slice_string_from_if w 9 (str l) .i64 i Try.underlying9, if_pos ⟨by omega, by rw [str_size]; omega⟩, Int.toNat_natCast, str_cut, str_size, List.take_of_length_le (by rw [List.length_drop]; omega)]
theorem slice_to {l : List Int} {j : Nat} (h : j ≤ l.length) (w : World) : (Instr.slice 9 (.string (str l)) none (some (.int .i64 j)) none).run Try.prog w = .ok (.string (str (l.take j))) w := by
  rw [run_slice_string_to_if w 9 (str l) .i64 j Try.underlying9, if_pos ⟨by omega, by rw [str_size]; omega⟩, Int.toNat_natCast, str_cut, List.drop_zero, Nat.sub_zero]
theorem add_str {a b : List Int} (h : a.length + b.length ≤ 9223372036854775807) (w : World) : (Op.stringOp .add (str a) (str b)).run Try.prog w = .ok (.string (str (a ++ b))) w := by
  rw [run_string_add_sum w _ _ (by rw [str_size, str_size]; exact h), str_app]
end
end Go.Proofs.Ytbiohidelhfaiaa
