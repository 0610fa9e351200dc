/-
  Arguments of whatever shape (whole numbers, bools, strings, slices, structs, arrays, nested) read as plain Lean data: one theorem over all shapes; what is read stays where nothing that was there turns.
-/
import Derived.Test.YtbiohidelhfaiaaDiskM
import Derived.WalkKit
import Derived.ProofKit
import Derived.OpenShut
import Derived.ChangeOld
import Derived.SizedLaws
import Derived.DataReads
import Derived.Deep.Slices
namespace Go.Args
open Go.RowKit Go.Mem
set_option linter.unusedVariables false

inductive Kd where
  | int (k : IntKind)
  | bool
  | str
  | slice (e : Kd)
  | fin
  | fld (a b : Kd)
  | st (f : Kd)
  | arr (n : Nat) (e : Kd)
def Kd.sz : Kd → Nat
  | .int _ | .bool | .str | .slice _ => 1
  | .fin => 0
  | .fld a b => a.sz + b.sz
  | .st f => f.sz
  | .arr n e => n * e.sz
def Kd.Dat : Kd → Type
  | .int _ => Int
  | .bool => Bool
  | .str => ByteArray
  | .slice e => List e.Dat
  | .fin => Unit
  | .fld a b => a.Dat × b.Dat
  | .st f => f.Dat
  | .arr _ e => List e.Dat
/-- The cells say the datum. -/
def Has (w : World) : (k : Kd) → List Value → k.Dat → Prop
  | .int k, cs, n => cs = [.int k n] ∧ (Lit.int k n).wf = true
  | .bool, cs, b => cs = [.bool b]
  | .str, cs, s => cs = [.string s] ∧ s.size ≤ maxLen
  | .slice e, cs, (l : List e.Dat) => ∃ A c, cs = [.slice A l.length c] ∧ l.length ≤ c ∧ c ≤ maxLen ∧ (A = none → c = 0) ∧
      ∀ (i : Nat) (d : e.Dat), l[i]? = some d → ∃ (a : Addr) (es : List Value), A = some a ∧ es.length = e.sz ∧ (∀ j u, es[j]? = some u → w.cell? ((a.add (i * e.sz)).add j) = some u) ∧ Has w e es d
  | .fin, cs, _ => cs = []
  | .fld a b, cs, (x : a.Dat × b.Dat) => ∃ c1 c2, cs = c1 ++ c2 ∧ c1.length = a.sz ∧ Has w a c1 x.1 ∧ Has w b c2 x.2
  | .st f, cs, x => Has w f cs x
  | .arr n e, cs, (l : List e.Dat) => l.length = n ∧ cs.length = n * e.sz ∧ ∀ (i : Nat) (d : e.Dat), l[i]? = some d → Has w e ((cs.drop (i * e.sz)).take e.sz) d

def fitF (fitB : TypeId → Kd → Bool) (P : Program) : List Field → Nat → Kd → Bool
  | [], _, .fin => true
  | f :: r, off, .fld a b => (f.offset == off) && (P.cellsOf f.type == a.sz) && fitB f.type a && fitF fitB P r (off + a.sz) b
  | _, _, _ => false
/-- The type has this shape. -/
def fitB (P : Program) : Nat → TypeId → Kd → Bool
  | 0, _, _ => false
  | n + 1, t, .int k => match P.underlying t with | some (.int k') => k' == k | _ => false
  | n + 1, t, .bool => match P.underlying t with | some .bool => true | _ => false
  | n + 1, t, .str => match P.underlying t with | some .string => true | _ => false
  | n + 1, t, .slice e => match P.underlying t with | some (.slice te) => (P.cellsOf te == e.sz) && fitB P n te e | _ => false
  | n + 1, t, .st f => match P.underlying t with | some (.struct fs) => (P.cellsOf t == f.sz) && fitF (fitB P n) P fs.toList 0 f | _ => false
  | n + 1, t, .arr m e => match P.underlying t with | some (.array m' te) => (m' == m) && (P.cellsOf te == e.sz) && (P.cellsOf t == m * e.sz) && fitB P n te e | _ => false
  | n + 1, t, _ => false

theorem get_has {α : Type} (n : Nat) (p : Nat → α → Prop) (h : ∀ i, i < n → ∃ x, p i x) : ∃ l : List α, l.length = n ∧ ∀ i x, l[i]? = some x → p i x := by
  induction n with
  | zero => exact ⟨[], rfl, fun i x hx => by simp at hx⟩
  | succ n ih =>
    obtain ⟨l, hl, hp⟩ := ih (fun i hi => h i (by omega))
    obtain ⟨x, hx⟩ := h n (by omega)
    refine ⟨l ++ [x], by simp [hl], fun i y hy => ?_⟩
    by_cases hi : i < l.length
    · rw [List.getElem?_append_left hi] at hy
      exact hp i y hy
    · rw [List.getElem?_append_right (by omega)] at hy
      have : i - l.length = 0 := by
        have := (List.getElem?_eq_some_iff.1 hy).1
        simp at this; omega
      rw [this] at hy
      simp at hy
      subst hy
      have : i = n := by omega
      subst this; exact hx

section
variable {H : Type} {enc : TypeId × Value → H} {P : Program} {w : World} {base : Nat} {spare : Nat → Bool} {held : Bool}
theorem fields_has (fit : TypeId → Kd → Bool) (m : Nat) (cs : List Value) (ih : ∀ (t : TypeId) (k : Kd) (c : List Value) x, fit t k = true → DataW.trod enc P w base spare held m t c = some x → ∃ d : k.Dat, Has w k c d) :
    ∀ (fs : List Field) (off : Nat) (k : Kd), fitF fit P fs off k = true → off + k.sz = cs.length → (∀ f ∈ fs, ∃ x, DataW.trod enc P w base spare held m f.type ((cs.drop f.offset).take (P.cellsOf f.type)) = some x) → ∃ d : k.Dat, Has w k (cs.drop off) d
  | [], off, k, h, hl, _ => by
    cases k <;> unfold fitF at h <;> try (exact absurd h Bool.false_ne_true)
    case fin =>
      refine ⟨(), ?_⟩
      simp only [Kd.sz] at hl
      exact List.drop_eq_nil_of_le (by omega)
  | f :: r, off, k, h, hl, hf => by
    cases k <;> unfold fitF at h <;> try (exact absurd h Bool.false_ne_true)
    case fld a b =>
      simp only [Bool.and_eq_true, beq_iff_eq] at h
      obtain ⟨⟨⟨h1, h2⟩, h3⟩, h4⟩ := h
      simp only [Kd.sz] at hl
      obtain ⟨x, hx⟩ := hf f List.mem_cons_self
      rw [h1, h2] at hx
      obtain ⟨d1, hd1⟩ := ih f.type a _ x h3 hx
      obtain ⟨d2, hd2⟩ := fields_has fit m cs ih r (off + a.sz) b h4 (by omega) (fun g hg => hf g (List.mem_cons_of_mem _ hg))
      refine ⟨(d1, d2), (cs.drop off).take a.sz, cs.drop (off + a.sz), ?_, ?_, hd1, hd2⟩
      · rw [← List.drop_drop, List.take_append_drop]
      · rw [List.length_take, List.length_drop]; omega
theorem trod_has : ∀ (n : Nat) (t : TypeId) (k : Kd) (fuel : Nat) (cs : List Value) (x : DataW H × List MemPlace), fitB P n t k = true → DataW.trod enc P w base spare held fuel t cs = some x → ∃ d : k.Dat, Has w k cs d
  | 0, _, _, _, _, _, h, _ => by unfold fitB at h; cases h
  | n + 1, t, k, fuel, cs, x, h, ht => by
    cases k with
    | int k =>
      unfold fitB at h
      split at h
      · rename_i k' hu
        obtain ⟨v, hv, _, hw⟩ := DataW.trod_int hu ht
        have e : k' = k := by cases k' <;> cases k <;> first | rfl | (exact absurd h (by decide))
        subst e
        exact ⟨v, hv, hw⟩
      · cases h
    | bool =>
      unfold fitB at h
      split at h
      · rename_i hu
        obtain ⟨b, hb, _⟩ := DataW.trod_bool hu ht
        exact ⟨b, hb⟩
      · cases h
    | str =>
      unfold fitB at h
      split at h
      · rename_i hu
        obtain ⟨s, hs, _, hl⟩ := DataW.trod_string hu ht
        exact ⟨s, hs, hl⟩
      · cases h
    | slice e =>
      unfold fitB at h
      split at h
      · rename_i te hu
        simp only [Bool.and_eq_true, beq_iff_eq] at h
        rcases Go.Deep.open_slice hu ht with ⟨rfl, _⟩ | ⟨a, len, cap, m, fu, D, Pl, rfl, _, hl, hm, hmm, _, hx⟩
        · exact ⟨([] : List e.Dat), none, 0, rfl, Nat.le_refl _, by simp [maxLen], fun _ => rfl, fun i d hd => by simp at hd⟩
        · have hlm : len ≤ m := by rw [hmm]; split <;> omega
          obtain ⟨l, hll, hp⟩ := get_has (α := e.Dat) len (fun i d => ∃ (es : List Value), es.length = e.sz ∧ (∀ j u, es[j]? = some u → w.cell? ((a.add (i * e.sz)).add j) = some u) ∧ Has w e es d) (fun i hi => by
            obtain ⟨es, h1, h2⟩ := hx i (by omega)
            rw [h.1] at h1
            obtain ⟨_, h3, h4⟩ := World.cells?_some h1
            obtain ⟨d, hd⟩ := trod_has n te e _ _ _ h.2 h2
            exact ⟨d, es, h3, fun j u hu => by rw [h4 j (by rw [← h3]; exact (List.getElem?_eq_some_iff.1 hu).1)]; exact hu, hd⟩)
          refine ⟨l, some a, cap, by rw [hll], by rw [hll]; exact hl, hm, fun h => (by cases h), fun i d hd => ?_⟩
          obtain ⟨es, h1, h2, h3⟩ := hp i d hd
          exact ⟨a, es, rfl, h1, h2, h3⟩
      · cases h
    | fin => unfold fitB at h; cases h
    | fld a b => unfold fitB at h; cases h
    | st f =>
      unfold fitB at h
      split at h
      · rename_i fs hu
        simp only [Bool.and_eq_true, beq_iff_eq] at h
        obtain ⟨xs, m, rfl, _, hl, hlen, hf⟩ := DataW.trod_struct hu ht
        have := fields_has (enc := enc) (w := w) (base := base) (spare := spare) (held := held) (fitB P n) m cs (fun t k c x hk hx => trod_has n t k m c x hk hx) fs.toList 0 f h.2 (by rw [hl, h.1]; omega) (fun g hg => by
          obtain ⟨i, hi, hgi⟩ := List.mem_iff_getElem.1 hg
          have h1 := hf i g (by rw [← hgi]; simp)
          have h2 : i < xs.length := by rw [hlen]; simpa using hi
          exact ⟨xs[i], by rw [h1, List.getElem?_eq_getElem h2]⟩)
        rw [List.drop_zero] at this
        exact this
      · cases h
    | arr m e =>
      unfold fitB at h
      split at h
      · rename_i m' te hu
        simp only [Bool.and_eq_true, beq_iff_eq] at h
        obtain ⟨⟨⟨h1, h2⟩, h3⟩, h4⟩ := h
        subst h1
        obtain ⟨xs, fu, rfl, _, hl, hlen, hf⟩ := DataW.trod_array hu ht
        obtain ⟨l, hll, hp⟩ := get_has (α := e.Dat) m' (fun i d => Has w e ((cs.drop (i * e.sz)).take e.sz) d) (fun i hi => by
          have h5 := hf i hi
          rw [h2, List.getElem?_eq_getElem (by rw [hlen]; exact hi)] at h5
          exact trod_has n te e _ _ _ h4 h5)
        exact ⟨l, hll, by rw [hl, h3], hp⟩
      · cases h
end

theorem pos_of_ne {α : Type} {l : List α} (h : l ≠ []) : 0 < l.length := by cases l with | nil => exact (h rfl).elim | cons x r => simp
theorem flatMap_one {α β : Type} (f : α → β) (l : List α) : l.map f = l.flatMap fun x => [f x] := by induction l with | nil => rfl | cons x r ih => rw [List.map_cons, List.flatMap_cons, ih]; rfl
/-! ### what is read, in the words of the walks -/
theorem Has.row {w : World} {e : Kd} {v : Value} {l : List e.Dat} (h : Has w (.slice e) [v] l) (enc : e.Dat → List Value) (he : ∀ es d, Has w e es d → es = enc d) (hl : ∀ d, (enc d).length = e.sz) : Rd w (fun b => b < w.heap.size) v l.length (l.flatMap enc) ∧ l.length ≤ maxLen := by
  obtain ⟨A, c, h1, h2, h3, h4, h5⟩ := h
  obtain rfl : v = .slice A l.length c := by simpa using h1
  have hlen : (l.flatMap enc).length = l.length * e.sz := by
    clear h1 h2 h3 h4 h5
    induction l with
    | nil => simp
    | cons x r ih => rw [List.flatMap_cons, List.length_append, ih, hl, List.length_cons, Nat.succ_mul]; omega
  refine ⟨⟨A, c, rfl, h2, fun hA => ?_, ?_⟩, by omega⟩
  · have := h4 hA; exact ⟨by omega, this⟩
  · by_cases hne : l.flatMap enc = []
    · exact .inl hne
    · right
      -- its first element's first cell tells that the address has no spot
      have hpos : 0 < l.length * e.sz := by rw [← hlen]; exact pos_of_ne hne
      have hsz : 0 < e.sz := Nat.pos_of_mul_pos_left hpos
      have cells : ∀ a, A = some a → ∀ j u, (l.flatMap enc)[j]? = some u → w.cell? (a.add j) = some u := by
        intro a ha j u hu
        have hj : j < l.length * e.sz := by rw [← hlen]; exact (List.getElem?_eq_some_iff.1 hu).1
        have hi : j / e.sz < l.length := Nat.div_lt_of_lt_mul (by rw [Nat.mul_comm]; exact hj)
        obtain ⟨a', es, h6, h7, h8, h9⟩ := h5 (j / e.sz) l[j / e.sz] (List.getElem?_eq_getElem hi)
        rw [ha] at h6
        cases h6
        have h10 := he es _ h9
        have hget : ∀ (l : List e.Dat) (i j : Nat), j < e.sz → (hi : i < l.length) → (l.flatMap enc)[i * e.sz + j]? = (enc l[i])[j]? := by
          intro l
          induction l with
          | nil => intro i j _ hi; simp at hi
          | cons x r ih =>
            intro i j hj hi
            rw [List.flatMap_cons]
            cases i with
            | zero => rw [Nat.zero_mul, Nat.zero_add, List.getElem?_append_left (by rw [hl]; exact hj)]; rfl
            | succ i =>
              rw [List.getElem?_append_right (by rw [hl, Nat.succ_mul]; omega), hl, show (i + 1) * e.sz + j - e.sz = i * e.sz + j by rw [Nat.succ_mul]; omega]
              exact ih i j hj (by simpa using hi)
        have hmod : j % e.sz < e.sz := Nat.mod_lt _ hsz
        have hdm : j / e.sz * e.sz + j % e.sz = j := by rw [Nat.mul_comm]; exact Nat.div_add_mod j e.sz
        have hg := hget l (j / e.sz) (j % e.sz) hmod hi
        rw [hdm, hu] at hg
        have h11 := h8 (j % e.sz) u (by rw [h10]; exact hg.symm)
        have hadd : (a.add (j / e.sz * e.sz)).add (j % e.sz) = a.add j := by
          conv => rhs; rw [← hdm]
          unfold Addr.add
          by_cases h0 : j / e.sz * e.sz = 0
          · simp [h0]
          · by_cases h1 : j % e.sz = 0
            · simp [h0, h1]
            · simp [h0, h1]; omega
        rw [hadd] at h11
        exact h11
      cases hA : A with
      | none =>
        have := h4 hA
        have : l = [] := List.eq_nil_of_length_eq_zero (by omega)
        subst this
        exact (hne rfl).elim
      | some a =>
        have h0 := cells a hA 0 _ (List.getElem?_eq_getElem (pos_of_ne hne))
        have hs : a.spot = none := by
          have := World.cell?_spot h0
          simpa [Addr.add] using this
        obtain ⟨b, o, sp⟩ := a
        simp only at hs
        subst hs
        refine ⟨b, o, rfl, World.block_lt_of_cell? w _ h0, fun j u hu => ?_⟩
        have := cells _ hA j u hu
        rwa [Addr.add_mid] at this
theorem Has.bytes {w : World} {v : Value} {l : List Int} (h : Has w (.slice (.int .u8)) [v] l) : Rd w (fun b => b < w.heap.size) v l.length (Disk.bytes8 l) ∧ l.length ≤ maxLen := by
  have := h.row (fun n => [.int .u8 n]) (fun es d hd => hd.1) (fun d => rfl)
  refine ⟨?_, this.2⟩
  have e : Disk.bytes8 l = l.flatMap fun n => [Value.int .u8 n] := flatMap_one _ _
  rw [e]; exact this.1
theorem Has.bools {w : World} {v : Value} {l : List Bool} (h : Has w (.slice .bool) [v] l) : Rd w (fun b => b < w.heap.size) v l.length (l.map Value.bool) ∧ l.length ≤ maxLen := by
  have := h.row (fun n => [.bool n]) (fun es d hd => hd) (fun d => rfl)
  refine ⟨?_, this.2⟩
  have e : l.map Value.bool = l.flatMap fun n => [Value.bool n] := flatMap_one _ _
  rw [e]; exact this.1
/-- What is read stays, where nothing that was there turns. -/
theorem Has.kept {w w' : World} (hk : Keeps (fun _ => False) w w') : ∀ (k : Kd) (cs : List Value) (d : k.Dat), Has w k cs d → Has w' k cs d
  | .int _, _, _, h => h
  | .bool, _, _, h => h
  | .str, _, _, h => h
  | .fin, _, _, h => h
  | .st f, cs, d, h => Has.kept hk f cs d h
  | .fld a b, cs, d, h => by
    obtain ⟨c1, c2, h1, h2, h3, h4⟩ := h
    exact ⟨c1, c2, h1, h2, Has.kept hk a _ _ h3, Has.kept hk b _ _ h4⟩
  | .arr n e, cs, d, h => ⟨h.1, h.2.1, fun i x hx => Has.kept hk e _ _ (h.2.2 i x hx)⟩
  | .slice e, cs, d, h => by
    obtain ⟨A, c, h1, h2, h3, h4, h5⟩ := h
    refine ⟨A, c, h1, h2, h3, h4, fun i x hx => ?_⟩
    obtain ⟨a, es, h6, h7, h8, h9⟩ := h5 i x hx
    exact ⟨a, es, h6, h7, fun j u hu => hk.cell (h8 j u hu) (fun h => h), Has.kept hk e _ _ h9⟩
/-- The slice's address is plain, where it has an element with a cell. -/
theorem Has.plain {w : World} {e : Kd} {v : Value} {l : List e.Dat} (h : Has w (.slice e) [v] l) (hs : 0 < e.sz) (hl : 0 < l.length) : ∃ b o c, v = .slice (some ⟨b, o, none⟩) l.length c ∧ l.length ≤ c ∧ c ≤ maxLen ∧ b < w.heap.size := by
  obtain ⟨A, c, h1, h2, h3, h4, h5⟩ := h
  obtain rfl : v = .slice A l.length c := by simpa using h1
  obtain ⟨a, es, rfl, h7, h8, h9⟩ := h5 0 _ (List.getElem?_eq_getElem hl)
  have h0 := h8 0 _ (List.getElem?_eq_getElem (by omega))
  have hs : a.spot = none := by
    have := World.cell?_spot h0
    simpa [Addr.add] using this
  obtain ⟨b, o, sp⟩ := a
  simp only at hs
  subst hs
  rw [Addr.add_mid, Addr.add_mid] at h0
  exact ⟨b, o, c, rfl, h2, h3, World.block_lt_of_cell? w _ h0⟩
/-- An element of a slice: its cells. -/
theorem Has.elem {w : World} {e : Kd} {l : List e.Dat} {b o n c : Nat} (h : Has w (.slice e) [.slice (some ⟨b, o, none⟩) n c] l) {i : Nat} {d : e.Dat} (hi : l[i]? = some d) : ∃ es : List Value, es.length = e.sz ∧ (∀ j u, es[j]? = some u → w.cell? ⟨b, o + (i * e.sz + j), none⟩ = some u) ∧ Has w e es d := by
  obtain ⟨A, c', h1, h2, h3, h4, h5⟩ := h
  have h1' : A = some ⟨b, o, none⟩ := by
    have : Value.slice (some ⟨b, o, none⟩) n c = .slice A l.length c' := by simpa using h1
    cases this; rfl
  subst h1'
  obtain ⟨a, es, h6, h7, h8, h9⟩ := h5 i d hi
  cases h6
  refine ⟨es, h7, fun j u hu => ?_, h9⟩
  have := h8 j u hu
  rwa [Addr.add_mid, Addr.add_mid, Nat.add_assoc] at this
/-- The first ones. -/
theorem Has.front {w : World} {e : Kd} {l : List e.Dat} {A : Option Addr} {n c : Nat} (h : Has w (.slice e) [.slice A n c] l) (m : Nat) (hm : m ≤ l.length) : Has w (.slice e) [.slice A m c] (l.take m) := by
  obtain ⟨A', c', h1, h2, h3, h4, h5⟩ := h
  have h1' : Value.slice A n c = .slice A' l.length c' := by simpa using h1
  cases h1'
  have hl : (l.take m).length = m := by rw [List.length_take]; omega
  refine ⟨A, c, ?_, by rw [show List.length (l.take m) = m from hl]; omega, h3, h4, fun i d hi => h5 i d ?_⟩
  · show [Value.slice A m c] = [Value.slice A (List.length (l.take m)) c]
    rw [hl]
  · have hi' : (l.take m)[i]? = some d := hi
    rw [List.getElem?_take] at hi'
    split at hi'
    · exact hi'
    · cases hi'
theorem Has.len {w : World} {e : Kd} {v : Value} {l : List e.Dat} (h : Has w (.slice e) [v] l) : ∃ A c, v = .slice A l.length c ∧ l.length ≤ c ∧ c ≤ maxLen ∧ (A = none → c = 0) := by
  obtain ⟨A, c, h1, h2, h3, h4, h5⟩ := h
  exact ⟨A, c, by simpa using h1, h2, h3, h4⟩
end Go.Args
