/-
  The disk as plain data, and what a heap must hold for it.
-/
import Derived.Test.YtbiohidelhfaiaaMem
namespace Go.Disk
open Go.RowKit Go.Mem

/-! ### plain data -/
def bytes8 (l : List Int) : List Value := l.map (Value.int .u8)
def flat (l : List (List Int)) : List Value := l.flatMap bytes8
def opens (l : List (Int × List Int)) : List Value := l.flatMap fun p => Value.int .i64 p.1 :: bytes8 p.2
@[irreducible] def zsec : List Int := List.replicate 64 0
theorem zsec_len : zsec.length = 64 := by unfold zsec; simp
/-- A text as a sector: filled up with noughts. -/
def pad (l : List Int) : List Int := l ++ zsec.drop l.length
theorem pad_len {l : List Int} (h : l.length ≤ 64) : (pad l).length = 64 := by unfold pad; rw [List.length_append, List.length_drop, zsec_len]; omega
theorem bytes8_len (l : List Int) : (bytes8 l).length = l.length := by simp [bytes8]
theorem bytes8_append (a b : List Int) : bytes8 (a ++ b) = bytes8 a ++ bytes8 b := by simp [bytes8]
theorem bytes8_one (l : List Int) : ∀ v ∈ bytes8 l, v.oneCell' = true := fun v hv => by
  obtain ⟨x, _, rfl⟩ := List.mem_map.1 hv; rfl

structure St where
  fast : List (List Int)
  now : List (List Int)
  opn : List (Int × List Int)
  armed : Bool
  left : Int
  off : Bool
structure St.Ok (s : St) : Prop where
  len : s.fast.length = s.now.length
  pos : 1 ≤ s.now.length
  most : s.now.length ≤ 4096
  f64 : ∀ x ∈ s.fast, x.length = 64
  n64 : ∀ x ∈ s.now, x.length = 64
  o64 : ∀ p ∈ s.opn, p.2.length = 64 ∧ 0 ≤ p.1 ∧ p.1 < s.now.length
  left0 : 0 ≤ s.left
  left1 : s.left ≤ 9223372036854775807

theorem flat_len {l : List (List Int)} (h : ∀ x ∈ l, x.length = 64) : (flat l).length = l.length * 64 := by
  induction l with
  | nil => rfl
  | cons x r ih =>
    unfold flat at *
    rw [List.flatMap_cons, List.length_append, ih (fun y hy => h y (List.mem_cons_of_mem _ hy)), bytes8_len, h x List.mem_cons_self, List.length_cons]
    omega
theorem flat_at {l : List (List Int)} (h : ∀ x ∈ l, x.length = 64) : ∀ (i : Nat) (x : List Int), l[i]? = some x → ((flat l).drop (i * 64)).take 64 = bytes8 x := by
  induction l with
  | nil => intro i x hx; simp at hx
  | cons y r ih =>
    intro i x hx
    have hy := h y List.mem_cons_self
    unfold flat at *
    rw [List.flatMap_cons]
    cases i with
    | zero =>
      simp only [List.getElem?_cons_zero, Option.some.injEq] at hx
      subst hx
      rw [Nat.zero_mul, List.drop_zero, List.take_append_of_le_length (by rw [bytes8_len, hy]; exact Nat.le_refl _), List.take_of_length_le (by rw [bytes8_len, hy]; exact Nat.le_refl _)]
    | succ i =>
      rw [List.getElem?_cons_succ] at hx
      rw [show (i + 1) * 64 = (bytes8 y).length + i * 64 by rw [bytes8_len, hy]; omega, ← List.drop_drop, List.drop_left]
      exact ih (fun z hz => h z (List.mem_cons_of_mem _ hz)) i x hx
theorem flat_set {l : List (List Int)} (h : ∀ x ∈ l, x.length = 64) : ∀ (i : Nat) (x : List Int), i < l.length → x.length = 64 → put (flat l) (i * 64) (bytes8 x) = flat (l.set i x) := by
  induction l with
  | nil => intro i x hi; simp at hi
  | cons y r ih =>
    intro i x hi hx
    have hy := h y List.mem_cons_self
    unfold flat put at *
    cases i with
    | zero =>
      rw [List.flatMap_cons, Nat.zero_mul, List.take_zero, List.nil_append, Nat.zero_add, bytes8_len, hx, List.set_cons_zero, List.flatMap_cons]
      congr 1
      have : (64 : Nat) = (bytes8 y).length := by rw [bytes8_len, hy]
      rw [this, List.drop_left]
    | succ i =>
      have e : (i + 1) * 64 = (bytes8 y).length + i * 64 := by rw [bytes8_len, hy]; omega
      rw [List.flatMap_cons, List.set_cons_succ, List.flatMap_cons, e, List.take_append, List.take_of_length_le (by omega), Nat.add_sub_cancel_left, Nat.add_assoc, ← List.drop_drop, List.drop_left, List.append_assoc, List.append_assoc]
      congr 1
      have h2 := ih (fun z hz => h z (List.mem_cons_of_mem _ hz)) i x (by simpa using hi) hx
      rw [List.append_assoc] at h2
      exact h2
theorem opens_len {l : List (Int × List Int)} (h : ∀ p ∈ l, p.2.length = 64) : (opens l).length = l.length * 65 := by
  induction l with
  | nil => rfl
  | cons x r ih =>
    unfold opens at *
    rw [List.flatMap_cons, List.length_append, ih (fun y hy => h y (List.mem_cons_of_mem _ hy)), List.length_cons, bytes8_len, h x List.mem_cons_self, List.length_cons]
    omega
theorem opens_at {l : List (Int × List Int)} (h : ∀ p ∈ l, p.2.length = 64) : ∀ (i : Nat) (p : Int × List Int), l[i]? = some p → ((opens l).drop (i * 65)).take 65 = Value.int .i64 p.1 :: bytes8 p.2 := by
  induction l with
  | nil => intro i x hx; simp at hx
  | cons y r ih =>
    intro i x hx
    have hy := h y List.mem_cons_self
    have hl : (Value.int .i64 y.1 :: bytes8 y.2).length = 65 := by rw [List.length_cons, bytes8_len, hy]
    unfold opens at *
    rw [List.flatMap_cons]
    cases i with
    | zero =>
      simp only [List.getElem?_cons_zero, Option.some.injEq] at hx
      subst hx
      rw [Nat.zero_mul, List.drop_zero, List.take_append_of_le_length (by omega), List.take_of_length_le (by omega)]
    | succ i =>
      rw [List.getElem?_cons_succ] at hx
      rw [show (i + 1) * 65 = (Value.int .i64 y.1 :: bytes8 y.2).length + i * 65 by rw [hl]; omega, ← List.drop_drop, List.drop_left]
      exact ih (fun z hz => h z (List.mem_cons_of_mem _ hz)) i x hx
theorem opens_snoc (l : List (Int × List Int)) (p : Int × List Int) : opens l ++ (Value.int .i64 p.1 :: bytes8 p.2) = opens (l ++ [p]) := by simp [opens]

/-! ### what each method does -/
/-- A step counts, or the power goes off. -/
def St.step (s : St) : Bool × St := if s.armed && s.left == 0 then (false, { s with off := true }) else if s.armed then (true, { s with left := s.left - 1 }) else (true, s)
def St.arm (s : St) (n : Int) : Int × St := if s.off then (14, s) else if n < 0 then (2, s) else (0, { s with armed := true, left := n })
def St.at_ (s : St) (i : Int) : Option (List Int) := if 0 ≤ i then s.now[i.toNat]? else none
def St.read (s : St) (i : Int) : List Int × Int := if s.off then ([], 14) else match s.at_ i with
  | some x => (x, 0)
  | none => ([], 2)
def St.write (s : St) (i : Int) (b : List Int) : Int × St := if s.off then (14, s) else if i < 0 ∨ s.now.length ≤ i ∨ 64 < b.length then (2, s) else
  if s.step.1 = true then (0, { s.step.2 with now := s.now.set i.toNat (pad b), opn := s.opn ++ [(i, pad b)] }) else (14, s.step.2)
/-- What is written is fast. -/
def St.settle (now : List (List Int)) (fast : List (List Int)) (l : List (Int × List Int)) : List (List Int) := l.foldl (fun f p => f.set p.1.toNat (now.getD p.1.toNat [])) fast
def St.sync (s : St) : Int × St := if s.off then (14, s) else if s.step.1 = true then (0, { s.step.2 with fast := St.settle s.now s.fast s.opn, opn := [] }) else (14, s.step.2)
/-- Of what is open that is kept which is told so. -/
def St.keep (keep : List Bool) : Nat → List (List Int) → List (Int × List Int) → List (List Int)
  | _, f, [] => f
  | k, f, p :: r => St.keep keep (k + 1) (if keep.getD k false = true then f.set p.1.toNat p.2 else f) r
def St.crash (s : St) (keep : List Bool) : St :=
  { fast := St.keep keep 0 s.fast s.opn, now := St.settle (St.keep keep 0 s.fast s.opn) s.now s.opn, opn := [], armed := false, left := 0, off := false }

/-! ### in memory -/
abbrev dcells (F N n : Nat) (vo : Value) (s : St) : List Value := [.slice (some ⟨F, 0, none⟩) n n, .slice (some ⟨N, 0, none⟩) n n, vo, .bool s.armed, .int .i64 s.left, .bool s.off]
/-- The parts of a disk at block g: its own block and those of its rows, all in S. -/
structure Parts (tD tS tW : TypeId) (w : World) (S : Nat → Prop) (g F N : Nat) (vo : Value) (s : St) : Prop where
  blk : w.heap[g]? = some (.cells (dcells F N s.now.length vo s).toArray tD (0, 0))
  bF : w.heap[F]? = some (.cells (flat s.fast).toArray tS (0, 0))
  bN : w.heap[N]? = some (.cells (flat s.now).toArray tS (0, 0))
  own : OwnRow w (fun k => S k ∧ k ≠ g ∧ k ≠ F ∧ k ≠ N) tW 65 vo s.opn.length (opens s.opn)
  inS : S g ∧ S F ∧ S N
  ne : F ≠ g ∧ N ≠ g ∧ N ≠ F
  ok : s.Ok
def Is (tD tS tW : TypeId) (w : World) (S : Nat → Prop) (g : Nat) (s : St) : Prop := ∃ F N vo, Parts tD tS tW w S g F N vo s
theorem Parts.upd {tD tS tW : TypeId} {w w' : World} {S : Nat → Prop} {g F N : Nat} {vo : Value} {s s' : St} (h : Parts tD tS tW w S g F N vo s) (hk : Keeps (· = g) w w') (hb : w'.heap[g]? = some (.cells (dcells F N s.now.length vo s').toArray tD (0, 0)))
    (h1 : s'.now = s.now) (h2 : s'.fast = s.fast) (h3 : s'.opn = s.opn) (h4 : 0 ≤ s'.left) (h5 : s'.left ≤ 9223372036854775807) : Parts tD tS tW w' S g F N vo s' := by
  refine ⟨by rw [h1]; exact hb, by rw [h2]; exact hk.heap h.bF h.ne.1, by rw [h1]; exact hk.heap h.bN h.ne.2.1, by rw [h3]; exact h.own.kept hk (fun k hh => hh.2.1), h.inS, h.ne, ?_⟩
  have := h.ok
  exact ⟨by rw [h1, h2]; exact this.len, by rw [h1]; exact this.pos, by rw [h1]; exact this.most, by rw [h2]; exact this.f64, by rw [h1]; exact this.n64, by rw [h1, h3]; exact this.o64, h4, h5⟩
theorem Parts.cell {tD tS tW : TypeId} {w : World} {S : Nat → Prop} {g F N : Nat} {vo : Value} {s : St} (h : Parts tD tS tW w S g F N vo s) (i : Nat) (v : Value) (hi : (dcells F N s.now.length vo s)[i]? = some v) : w.cell? ⟨g, i, none⟩ = some v := by
  rw [cell_of_row w g i _ _ _ h.blk]; simpa using hi
theorem Parts.free {tD tS tW : TypeId} {w : World} {S : Nat → Prop} {g F N : Nat} {vo : Value} {s : St} (h : Parts tD tS tW w S g F N vo s) (i : Nat) : w.frozen? ⟨g, i, none⟩ = false := frozen_of_row w g i _ _ h.blk
theorem opens_cells {w : World} {ok : Nat → Prop} {e : TypeId} {n : Nat} {O c : Nat} {l : List (Int × List Int)} (h : OwnRow w ok e 65 (.slice (some ⟨O, 0, none⟩) n c) l.length (opens l)) (h65 : ∀ p ∈ l, p.2.length = 64) {j : Nat} {p : Int × List Int} (hp : l[j]? = some p) :
    ∀ i u, (Value.int .i64 p.1 :: bytes8 p.2)[i]? = some u → w.cell? ⟨O, j * 65 + i, none⟩ = some u := fun i u hu => by
  refine h.cells rfl (j * 65 + i) u ?_
  rw [← opens_at h65 j p hp, List.getElem?_take, List.getElem?_drop] at hu
  split at hu
  · exact hu
  · cases hu
theorem settle_snoc (now fast : List (List Int)) (l : List (Int × List Int)) (p : Int × List Int) : St.settle now fast (l ++ [p]) = (St.settle now fast l).set p.1.toNat (now.getD p.1.toNat []) := by simp [St.settle, List.foldl_append]
theorem settle_len (now : List (List Int)) : ∀ (l : List (Int × List Int)) (fast : List (List Int)), (St.settle now fast l).length = fast.length
  | [], _ => rfl
  | p :: r, fast => by
    have := settle_len now r (fast.set p.1.toNat (now.getD p.1.toNat []))
    rw [List.length_set] at this
    exact this
theorem settle_64 {now : List (List Int)} (hn : ∀ x ∈ now, x.length = 64) : ∀ (l : List (Int × List Int)) (fast : List (List Int)), (∀ p ∈ l, 0 ≤ p.1 ∧ p.1 < now.length) → (∀ x ∈ fast, x.length = 64) → ∀ x ∈ St.settle now fast l, x.length = 64
  | [], _, _, hf => hf
  | p :: r, fast, hl, hf => by
    refine settle_64 hn r (fast.set p.1.toNat (now.getD p.1.toNat [])) (fun q hq => hl q (List.mem_cons_of_mem _ hq)) (fun x hx => ?_)
    rcases List.mem_or_eq_of_mem_set hx with hx | rfl
    · exact hf x hx
    · have := hl p List.mem_cons_self
      have hk : p.1.toNat < now.length := by omega
      rw [List.getD_eq_getElem?_getD, List.getElem?_eq_getElem hk]
      exact hn _ (List.getElem_mem hk)
theorem keep_len (keep : List Bool) : ∀ (l : List (Int × List Int)) (k : Nat) (f : List (List Int)), (St.keep keep k f l).length = f.length
  | [], _, _ => rfl
  | p :: r, k, f => by
    rw [St.keep, keep_len keep r]
    split
    · rw [List.length_set]
    · rfl
theorem keep_64 (keep : List Bool) : ∀ (l : List (Int × List Int)) (k : Nat) (f : List (List Int)), (∀ p ∈ l, p.2.length = 64) → (∀ x ∈ f, x.length = 64) → ∀ x ∈ St.keep keep k f l, x.length = 64
  | [], _, _, _, hf => hf
  | p :: r, k, f, hl, hf => by
    rw [St.keep]
    refine keep_64 keep r (k + 1) _ (fun q hq => hl q (List.mem_cons_of_mem _ hq)) (fun x hx => ?_)
    split at hx
    · rcases List.mem_or_eq_of_mem_set hx with hx | rfl
      · exact hf x hx
      · exact hl p List.mem_cons_self
    · exact hf x hx
theorem keep_snoc (keep : List Bool) (p : Int × List Int) : ∀ (l : List (Int × List Int)) (k : Nat) (f : List (List Int)), St.keep keep k f (l ++ [p]) = if keep.getD (k + l.length) false = true then (St.keep keep k f l).set p.1.toNat p.2 else St.keep keep k f l
  | [], k, f => by simp [St.keep]
  | q :: r, k, f => by
    rw [List.cons_append, St.keep, keep_snoc keep p r, St.keep]
    rw [show k + 1 + r.length = k + (q :: r).length by rw [List.length_cons]; omega]
theorem getD_of {now : List (List Int)} {k : Nat} (h : k < now.length) : now.getD k [] = now[k] := by rw [List.getD_eq_getElem?_getD, List.getElem?_eq_getElem h]; rfl
end Go.Disk
