/-
  Several texts in one:
  A region whose order is drawn, walked in ONE order (plain law, over whatever program): where each operation is either dry (its answer does not hang on the world), or only reads while nothing that writes may come ahead of it, or is the only one that can come next.
  The small functions of the references that all statements use: Least, Cut, Copy, Same.
  More steps over plain worlds: append of a string's bytes, append of zeros.
  More steps over plain worlds: bytes of a string.
  Rows of one's own: literals of one element, rows out of blocks.
  Texts as lists of bytes: what a string is, its bytes, its pieces.
  More steps over plain worlds: one cell of a row of one's own is set; a text out of bytes.
  The walks of named, Key, Var.
  Bytes that grow: what the call itself appends to.
  The walks of Var.
-/
import Derived.Orders
import Derived.Tactics
import Derived.Laws.Sem
import Derived.Laws.Panics
import Derived.Test.YtbiohidelhfaiaaChecked
import Derived.WalkKit
import Derived.WalkSpells
import Derived.WalkLawsBesides
import Derived.Lib.Hide
import Derived.Lib.AppendStr
import Derived.Deep.DeepAppendWide
import Derived.Laws.IdiomStrings
import Derived.Lib.BufferRead
import Derived.Test.YtbiohidelhfaiaaStoreWholeP0
section
namespace Go.Canon

/-! ### dry, reading -/
def Dry {α : Type} (P : Program) (s : Sem α) : Prop := ∀ w x w', s.run P w = .ok x w' → w' = w ∧ ∀ w2, s.run P w2 = .ok x w2
def Damp {α : Type} (P : Program) (s : Sem α) : Prop := ∀ w x w', s.run P w = .ok x w' → w' = w
variable {P : Program}

theorem Dry.damp {α : Type} {s : Sem α} (h : Dry P s) : Damp P s := fun w x w' e => (h w x w' e).1
theorem Dry.pure {α : Type} (a : α) : Dry P (Pure.pure a : Sem α) := fun w x w' e => by
  simp only [Sem.run_pure, Result.ok.injEq] at e
  obtain ⟨rfl, rfl⟩ := e
  exact ⟨rfl, fun _ => by simp⟩
theorem Damp.pure {α : Type} (a : α) : Damp P (Pure.pure a : Sem α) := (Dry.pure a).damp
theorem Dry.halt {α : Type} (h : Halt) : Dry P (Sem.halt h : Sem α) := fun w x w' e => by simp [Sem.run] at e
theorem Damp.halt {α : Type} (h : Halt) : Damp P (Sem.halt h : Sem α) := (Dry.halt h).damp
theorem run_bind_ok {α β : Type} {s : Sem α} {f : α → Sem β} {w : World} {x : β} {w' : World} (e : (s >>= f).run P w = .ok x w') :
    ∃ y w1, s.run P w = .ok y w1 ∧ (f y).run P w1 = .ok x w' := by
  rw [Sem.run_bind] at e
  cases h : s.run P w with
  | ok y w1 => rw [h] at e; exact ⟨y, w1, rfl, e⟩
  | halt z w1 => rw [h] at e; simp [Result.andThen] at e
theorem Dry.bind {α β : Type} {s : Sem α} {f : α → Sem β} (h : Dry P s) (hf : ∀ y, Dry P (f y)) : Dry P (s >>= f) := fun w x w' e => by
  obtain ⟨y, w1, h1, h2⟩ := run_bind_ok e
  obtain ⟨rfl, h3⟩ := h w y w1 h1
  obtain ⟨rfl, h4⟩ := hf y _ x w' h2
  exact ⟨rfl, fun w2 => by rw [Sem.run_bind, h3 w2]; exact h4 w2⟩
theorem Damp.bind {α β : Type} {s : Sem α} {f : α → Sem β} (h : Damp P s) (hf : ∀ y, Damp P (f y)) : Damp P (s >>= f) := fun w x w' e => by
  obtain ⟨y, w1, h1, h2⟩ := run_bind_ok e
  obtain rfl := h w y w1 h1
  exact hf y _ x w' h2
theorem Dry.program : Dry P Go.program := fun w x w' e => by
  simp only [Go.program, Sem.run, Result.ok.injEq] at e
  obtain ⟨rfl, rfl⟩ := e
  exact ⟨rfl, fun _ => rfl⟩
def Fails {α : Type} (P : Program) (s : Sem α) : Prop := ∀ w x w', s.run P w ≠ .ok x w'
theorem Fails.dry {α : Type} {s : Sem α} (h : Fails P s) : Dry P s := fun w x w' e => (h w x w' e).elim
theorem Fails.bindL {α β : Type} {s : Sem α} {f : α → Sem β} (h : Fails P s) : Fails P (s >>= f) := fun w x w' e => by
  obtain ⟨y, w1, h1, _⟩ := run_bind_ok e
  exact h _ _ _ h1
theorem Fails.bindR {α β : Type} {s : Sem α} {f : α → Sem β} (h : ∀ y, Fails P (f y)) : Fails P (s >>= f) := fun w x w' e => by
  obtain ⟨y, w1, _, h2⟩ := run_bind_ok e
  exact h y _ _ _ h2
theorem Fails.halt {α : Type} (h : Halt) : Fails P (Sem.halt h : Sem α) := fun w x w' e => by simp [Sem.run] at e
theorem Fails.goPanic {α : Type} (v : Value) : Fails P (Go.goPanic v : Sem α) := Fails.halt _
theorem Fails.stuck {α : Type} (v : String) : Fails P (Go.stuck v : Sem α) := Fails.halt _
theorem Fails.unsupported {α : Type} (v : Unsupported) : Fails P (Go.unsupported v : Sem α) := Fails.halt _
theorem Fails.runtimePanic {α : Type} (e : RuntimeError) : Fails P (Go.runtimePanic e : Sem α) := by
  unfold Go.runtimePanic
  refine Fails.bindR (fun p => ?_)
  cases e <;> first
    | exact Fails.goPanic _
    | exact Fails.bindR (fun _ => Fails.bindR (fun _ => Fails.goPanic _))
theorem Fails.boundsPanic {α : Type} (k : IntKind) (x y : Int) (c : BoundsCode) : Fails P (Go.boundsPanic k x y c : Sem α) := by
  unfold Go.boundsPanic
  dsimp only
  split <;> exact Fails.bindR (fun _ => Fails.runtimePanic _)
theorem Dry.stuck {α : Type} (v : String) : Dry P (Go.stuck v : Sem α) := (Fails.stuck v).dry
theorem Dry.unsupported {α : Type} (v : Unsupported) : Dry P (Go.unsupported v : Sem α) := (Fails.unsupported v).dry
theorem Dry.typeInfo (t : TypeId) : Dry P (Go.typeInfo t) := by
  unfold Go.typeInfo
  refine Dry.program.bind (fun p => ?_)
  split
  · exact Dry.pure _
  · exact Dry.stuck _
theorem Dry.underlying (t : TypeId) : Dry P (Go.underlying t) := by
  unfold Go.underlying
  refine Dry.program.bind (fun p => ?_)
  split
  · exact Dry.pure _
  · exact Dry.stuck _
theorem Dry.sizeOf (t : TypeId) : Dry P (Go.sizeOf t) := (Dry.typeInfo t).bind (fun _ => Dry.pure _)
theorem Dry.isAgg (t : TypeId) : Dry P (Go.isAgg t) := by
  unfold Go.isAgg
  refine (Dry.underlying t).bind (fun d => ?_)
  split <;> exact Dry.pure _
theorem Dry.asIntOf (v : Value) : Dry P (Go.asIntOf v) := by
  unfold Go.asIntOf
  split
  · exact Dry.pure _
  · exact Dry.unsupported _
  · exact Dry.stuck _
theorem Dry.asBool (v : Value) : Dry P (Go.asBool v) := by
  unfold Go.asBool
  split
  · exact Dry.pure _
  · exact Dry.stuck _
theorem Dry.asAgg (v : Value) : Dry P (Go.asAgg v) := by
  unfold Go.asAgg
  split
  · exact Dry.pure _
  · exact Dry.stuck _
theorem Dry.asAddr (v : Value) : Dry P (Go.asAddr v) := by
  unfold Go.asAddr
  split
  · exact Dry.pure _
  · exact (Fails.runtimePanic _).dry
  · exact Dry.stuck _
theorem Dry.sureAddr (v : Value) : Dry P (Instr.sureAddr v) := by
  unfold Instr.sureAddr
  split
  · exact Dry.pure _
  · exact Dry.stuck _
theorem Dry.part (t : TypeId) (cs : Array Value) (off : Nat) : Dry P (Go.part t cs off) := by
  unfold Go.part
  refine (Dry.isAgg t).bind (fun b => ?_)
  cases b
  · simp only [Bool.false_eq_true, if_false]
    split
    · exact Dry.pure _
    · exact Dry.stuck _
  · simp only [if_true]
    exact (Dry.sizeOf t).bind (fun _ => Dry.pure _)
theorem Dry.sliceBound (x : Value) (y : Nat) (c : BoundsCode) : Dry P (Instr.sliceBound x y c) := by
  unfold Instr.sliceBound
  refine (Dry.asIntOf x).bind (fun p => ?_)
  obtain ⟨k, i⟩ := p
  simp only
  split
  · exact Dry.pure _
  · exact (Fails.boundsPanic _ _ _ _).dry
theorem Dry.sliceBounds (b : Bool) (l c : Nat) (lo hi mx : Option Value) : Dry P (Instr.sliceBounds b l c lo hi mx) := by
  unfold Instr.sliceBounds
  dsimp only
  repeat' first
    | exact Dry.pure _
    | exact Dry.sliceBound _ _ _
    | exact Dry.stuck _
    | refine Dry.bind ?_ (fun _ => ?_)
    | split
theorem Dry.slice (t : TypeId) (x : Value) (lo hi mx : Option Value) : Dry P (Instr.slice t x lo hi mx) := by
  unfold Instr.slice
  dsimp only
  repeat' first
    | exact Dry.pure _
    | exact Dry.sliceBounds _ _ _ _ _ _
    | exact Dry.stuck _
    | exact Dry.asAddr _
    | exact Dry.sizeOf _
    | exact Dry.underlying _
    | refine Dry.bind ?_ (fun _ => ?_)
    | split
theorem Dry.sliceAt (t : TypeId) (x : Value) (lo hi mx : Option Value) : Dry P (Instr.sliceAt t x lo hi mx) := by
  unfold Instr.sliceAt
  refine (Dry.underlying t).bind (fun d => ?_)
  split
  · exact (Dry.sureAddr _).bind (fun _ => (Dry.sliceBounds _ _ _ _ _ _).bind (fun _ => (Dry.sizeOf _).bind (fun _ => Dry.pure _)))
  · exact Dry.slice _ _ _ _ _
theorem Dry.indexAt (t : TypeId) (x ix : Value) : Dry P (Instr.indexAt t x ix) := by
  unfold Instr.indexAt
  dsimp only
  repeat' first
    | exact Dry.pure _
    | exact Dry.asIntOf _
    | exact Dry.stuck _
    | exact Dry.unsupported _
    | exact (Fails.boundsPanic _ _ _ _).dry
    | exact Dry.sureAddr _
    | exact Dry.sizeOf _
    | exact Dry.underlying _
    | refine Dry.bind ?_ (fun _ => ?_)
    | split
theorem Dry.field (t : TypeId) (x : Value) (f : Nat) : Dry P (Instr.field t x f) := by
  unfold Instr.field
  refine (Dry.underlying t).bind (fun d => ?_)
  split
  · split
    · exact (Dry.asAgg _).bind (fun _ => Dry.part _ _ _)
    · exact Dry.stuck _
  · exact Dry.stuck _
theorem Dry.index (t : TypeId) (x ix : Value) : Dry P (Instr.index t x ix) := by
  unfold Instr.index
  refine (Dry.asIntOf ix).bind (fun p => ?_)
  obtain ⟨k, i⟩ := p
  simp only
  refine (Dry.underlying t).bind (fun d => ?_)
  split
  · split
    · exact (Dry.sizeOf _).bind (fun _ => Dry.part _ _ _)
    · exact (Fails.boundsPanic _ _ _ _).dry
  · split
    · exact Dry.pure _
    · exact (Fails.boundsPanic _ _ _ _).dry
  · exact Dry.stuck _
theorem Dry.extract (v : Value) (i : Nat) : Dry P (Instr.extract v i) := by
  unfold Instr.extract
  split
  · split
    · exact Dry.pure _
    · exact Dry.stuck _
  · exact Dry.stuck _

theorem Dry.fieldAt (s : TypeId) (x : Value) (f : Nat) (h : (match P.underlying s with | some (.struct fields) => (match fields[f]? with | some fd => (match P.info? fd.type with | some i => i.size != 0 | none => false) | none => false) | _ => false) = true) :
    Dry P (Instr.fieldAt s x f) := fun w v w' e => by
  unfold Instr.fieldAt at *
  cases hu : P.underlying s with
  | none => rw [hu] at h; cases h
  | some d =>
    rw [hu] at h
    have hun : ∀ w, (Go.underlying s).run P w = .ok d w := fun w => run_underlying hu w
    cases d <;> try cases h
    case struct fields =>
      cases hf : fields[f]? with
      | none => simp [hf] at h
      | some fd =>
        simp only [hf] at h
        cases hi : P.info? fd.type with
        | none => rw [hi] at h; cases h
        | some i =>
          rw [hi] at h
          have hsz : ∀ w, (Go.sizeOf fd.type).run P w = .ok i.size w := fun w => by simp [Go.sizeOf, Go.typeInfo, hi]
          have hne : i.size ≠ 0 := by simpa using h
          obtain ⟨d1, w1, h1, e⟩ := run_bind_ok e
          rw [hun] at h1
          simp only [Result.ok.injEq] at h1
          obtain ⟨rfl, rfl⟩ := h1
          simp only [hf] at e
          have hd : Dry P (do
              let a ← Instr.sureAddr x
              Pure.pure (Value.pointer (some (← Go.fieldPlace a fd))) : Sem Value) := by
            refine (Dry.sureAddr x).bind (fun a => Dry.bind (fun w x w' e => ?_) (fun _ => Dry.pure _))
            unfold Go.fieldPlace at *
            obtain ⟨n, w1, h1, e⟩ := run_bind_ok e
            rw [hsz] at h1
            simp only [Result.ok.injEq] at h1
            obtain ⟨rfl, rfl⟩ := h1
            rw [if_neg hne] at e
            simp only [Sem.run_pure, Result.ok.injEq] at e
            obtain ⟨rfl, rfl⟩ := e
            exact ⟨rfl, fun w2 => by rw [Sem.run_bind, hsz]; simp [hne]⟩
          obtain ⟨rfl, h2⟩ := hd _ _ _ e
          exact ⟨rfl, fun w2 => by rw [Sem.run_bind, hun]; simp only [Result.andThen, hf]; exact h2 w2⟩

theorem Dry.unary (op : UnOp) (x : Value) : Dry P (Op.unary op x) := by
  unfold Op.unary
  split
  · exact Dry.pure _
  · unfold Op.intBits; exact Dry.pure _
  · exact Dry.pure _
  · exact Dry.pure _
  · exact Dry.pure _
  · exact Dry.unsupported _
  · exact Dry.unsupported _
  · exact Dry.stuck _

/-- Two values at which a comparison, a sum .. hangs on nothing else. -/
def plain2 : Value → Value → Bool
  | .int _ _, .int _ _ => true
  | .string _, .string _ => true
  | .bool _, .bool _ => true
  | .slice _ _ _, .slice none _ _ => true
  | .pointer _, .pointer none => true
  | _, _ => false

theorem Dry.equalIn (d : Nat) (t : TypeId) (x y : Value) (h : plain2 x y = true) : Dry P (Op.equalIn (d + 1) t x y) := by
  unfold Op.equalIn
  refine (Dry.underlying t).bind (fun u => ?_)
  cases x <;> cases y <;> try cases h
  case bool.bool a b => cases u <;> first | exact Dry.pure _ | exact Dry.stuck _
  case int.int k a k' b =>
    cases u <;> dsimp only <;> first
      | exact Dry.stuck _
      | (split <;> first | exact Dry.pure _ | exact Dry.stuck _)
  case string.string a b => cases u <;> first | exact Dry.pure _ | exact Dry.stuck _
  case slice.slice a n c b m e =>
    cases b with
    | some _ => cases h
    | none => cases u <;> cases a <;> first | exact Dry.pure _ | exact Dry.stuck _
  case pointer.pointer a b =>
    cases b with
    | some _ => cases h
    | none => cases u <;> cases a <;> first | exact Dry.pure _ | exact Dry.stuck _ | exact Dry.unsupported _

theorem Dry.ite {α : Type} {c : Prop} [Decidable c] {s t : Sem α} (h1 : Dry P s) (h2 : Dry P t) : Dry P (if c then s else t) := by
  split
  · exact h1
  · exact h2

theorem Dry.eqGuard (op : BinOp) (t : TypeId) (a b : Operand) (x y : Value) (h : plain2 x y = true) : Dry P (Go.eqGuard op t a b x y) := by
  unfold Go.eqGuard
  cases x <;> cases y <;> first | exact absurd h Bool.false_ne_true | (cases op <;> exact Dry.pure _)

theorem Dry.binOp (op : BinOp) (t : TypeId) (x y : Value) (h : plain2 x y = true) : Dry P (Go.binOp op t x y) := by
  have heq : Dry P (Op.equal t x y) := Dry.equalIn 9999 t x y h
  cases x <;> cases y <;> try cases h
  case int.int k a k' b =>
    cases op <;> dsimp only [Go.binOp] <;> repeat' first
      | exact Dry.pure _
      | exact Dry.stuck _
      | exact (Fails.runtimePanic _).dry
      | refine Dry.ite ?_ ?_
      | (unfold Op.intArith; exact Dry.pure _)
      | (unfold Op.intCmp; exact Dry.pure _)
      | (unfold Op.intBits; exact Dry.pure _)
      | (unfold Op.intDiv)
      | (unfold Op.shift)
  case string.string a b =>
    cases op <;> dsimp only [Go.binOp, Op.stringOp] <;> repeat' first
      | exact Dry.pure _
      | exact Dry.stuck _
      | exact Dry.unsupported _
      | refine Dry.ite ?_ ?_
  case bool.bool a b => cases op <;> dsimp only [Go.binOp] <;> first | exact Dry.stuck _ | exact heq.bind (fun _ => Dry.pure _)
  case slice.slice a n c b m e => cases op <;> dsimp only [Go.binOp] <;> first | exact Dry.stuck _ | exact heq.bind (fun _ => Dry.pure _)
  case pointer.pointer a b =>
    cases b with
    | some _ => cases h
    | none => cases op <;> cases a <;> dsimp only [Go.binOp] <;> first | exact Dry.stuck _ | exact Dry.unsupported _ | exact heq.bind (fun _ => Dry.pure _)

def convB : Value → Bool
  | .int _ _ => true
  | .slice _ _ _ => true
  | .string _ => true
  | _ => false
theorem Dry.convert (s d : TypeId) (v : Value) (hv : convB v = true) (h : (match P.underlying s, P.underlying d with | some (.int _), some (.int _) => true | _, _ => false) = true) : Dry P (Go.convert s d v) := fun w x w' e => by
  unfold Go.convert at *
  cases hs : P.underlying s with
  | none => rw [hs] at h; cases h
  | some t =>
  cases hu : P.underlying d with
  | none => rw [hs, hu] at h; cases t <;> cases h
  | some u =>
    rw [hs, hu] at h
    cases t
    all_goals try (exact absurd h Bool.false_ne_true)
    cases u
    all_goals try (exact absurd h Bool.false_ne_true)
    rename_i k1 k2
    have hr : ∀ w2, (Go.underlying s).run P w2 = .ok (.int k1) w2 := fun w2 => run_underlying hs w2
    have hr2 : ∀ w2, (Go.underlying d).run P w2 = .ok (.int k2) w2 := fun w2 => run_underlying hu w2
    rw [Sem.run_bind, hr] at e
    simp only [Result.andThen] at e
    rw [Sem.run_bind, hr2] at e
    simp only [Result.andThen] at e
    cases v
    all_goals try (exact absurd hv Bool.false_ne_true)
    case int k n =>
      have hd : Dry P (Conv.intToInt k2 n) := Dry.pure _
      obtain ⟨rfl, h3⟩ := hd _ _ _ e
      exact ⟨rfl, fun w2 => by rw [Sem.run_bind, hr]; simp only [Result.andThen]; rw [Sem.run_bind, hr2]; exact h3 w2⟩
    all_goals cases e

def plain1 : Value → Bool
  | .slice _ _ _ => true
  | .string _ => true
  | _ => false

theorem Dry.len (ts : Array TypeId) (ty : TypeId) (v : Value) (h : plain1 v = true) : Dry P (Builtin.len_ ts ty #[v]) := by
  unfold Builtin.len_
  split
  · rename_i t x h2
    obtain rfl : v = x := by
      have := congrArg Prod.snd h2
      simpa using this
    refine (Dry.underlying t).bind (fun u => ?_)
    cases v <;> try cases h
    all_goals
      cases u <;> dsimp only <;> repeat' first
        | exact Dry.pure _
        | exact Dry.stuck _
        | exact Dry.underlying _
        | refine Dry.bind ?_ (fun _ => ?_)
        | split
  · exact Dry.stuck _

/-! ### an operation: dry, reading -/
def lenArg (c : Call) : Option Operand := match c.callee, c.args.toList with
  | .builtin .len, [x] => some x
  | _, _ => none
theorem lenArg_some {c : Call} {x : Operand} (h : lenArg c = some x) : c = { callee := .builtin .len, args := #[x], argTypes := c.argTypes } := by
  obtain ⟨callee, ⟨args⟩, ts⟩ := c
  unfold lenArg at h
  split at h
  · rename_i y h1 h2
    simp only at h1 h2
    subst h1; subst h2
    cases h; rfl
  · cases h
def dryKind (P : Program) : Op → Bool
  | .move _ | .assign _ | .pick .. | .field .. | .index .. | .indexAddr .. | .extract .. | .slice .. | .unOp .. | .nilCheck _ | .binOp .. => true
  | .fieldAddr s _ f => match P.underlying s with | some (.struct fields) => (match fields[f]? with | some fd => (match P.info? fd.type with | some i => i.size != 0 | none => false) | none => false) | _ => false
  | .convert s d _ => match P.underlying s, P.underlying d with | some (.int _), some (.int _) => true | _, _ => false
  | .call c => (lenArg c).isSome
  | _ => false
def needs : Op → List Operand
  | .nilCheck x => [x]
  | .binOp _ _ x y _ => [x, y]
  | .convert _ _ x => [x]
  | .call c => (lenArg c).toList
  | _ => []
def okVals (ρ : Operand → Value) : Op → Bool
  | .nilCheck x => match ρ x with | .pointer _ => true | _ => false
  | .binOp _ _ x y _ => plain2 (ρ x) (ρ y)
  | .convert _ _ x => convB (ρ x)
  | .call c => match lenArg c with | some x => plain1 (ρ x) | none => true
  | _ => true
/-- Only values come of it. -/
def Vals (P : Program) (s : Sem Next) : Prop := ∀ w n w', s.run P w = .ok n w' → ∃ v, n = .value v
theorem Vals.of (s : Sem Value) : Vals P (do pure (.value (← s))) := fun w n w' e => by
  obtain ⟨y, w1, _, h2⟩ := run_bind_ok e
  simp only [Sem.run_pure, Result.ok.injEq] at h2
  exact ⟨y, h2.1.symm⟩
theorem dry_op (o : Oper) (ρ : Operand → Value) (hk : dryKind P o.op = true) (hv : okVals ρ o.op = true) : Dry P (execOp ρ o) ∧ Vals P (execOp ρ o) := by
  unfold execOp
  cases ho : o.op <;> rw [ho] at hk hv <;> try cases hk
  case move x => exact ⟨Dry.pure _, fun w n w' e => by simp at e; exact ⟨_, e.1.symm⟩⟩
  case assign x => exact ⟨Dry.pure _, fun w n w' e => by simp at e; exact ⟨_, e.1.symm⟩⟩
  case pick c a b => exact ⟨(Dry.asBool _).bind (fun _ => Dry.pure _), fun w n w' e => by
    obtain ⟨y, w1, _, h2⟩ := run_bind_ok e
    simp only [Sem.run_pure, Result.ok.injEq] at h2
    exact ⟨_, h2.1.symm⟩⟩
  case nilCheck x =>
    dsimp only [okVals] at hv ⊢
    cases hx : ρ x <;> rw [hx] at hv <;> try cases hv
    case pointer a =>
      cases a with
      | none => exact ⟨(Fails.runtimePanic _).dry, fun w n w' e => (Fails.runtimePanic _ _ _ _ e).elim⟩
      | some a => exact ⟨Dry.pure _, fun w n w' e => by simp at e; exact ⟨_, e.1.symm⟩⟩
  case binOp op t x y yt => exact ⟨Dry.bind ((Dry.eqGuard _ _ _ _ _ _ hv).bind (fun _ => Dry.binOp _ _ _ _ hv)) (fun _ => Dry.pure _), Vals.of _⟩
  case unOp op t x => exact ⟨(Dry.unary _ _).bind (fun _ => Dry.pure _), Vals.of _⟩
  case convert s d x =>
    dsimp only [okVals] at hv
    exact ⟨(Dry.convert s d _ hv hk).bind (fun _ => Dry.pure _), Vals.of _⟩
  case slice t x lo hi mx => exact ⟨(Dry.sliceAt _ _ _ _ _).bind (fun _ => Dry.pure _), Vals.of _⟩
  case fieldAddr s x f => exact ⟨(Dry.fieldAt s _ f hk).bind (fun _ => Dry.pure _), Vals.of _⟩
  case field t x f => exact ⟨(Dry.field _ _ _).bind (fun _ => Dry.pure _), Vals.of _⟩
  case indexAddr t x i => exact ⟨(Dry.indexAt _ _ _).bind (fun _ => Dry.pure _), Vals.of _⟩
  case index t x i => exact ⟨(Dry.index _ _ _).bind (fun _ => Dry.pure _), Vals.of _⟩
  case extract t i => exact ⟨(Dry.extract _ _).bind (fun _ => Dry.pure _), Vals.of _⟩
  case call c =>
    cases hc : lenArg c with
    | none => dsimp only [dryKind] at hk; rw [hc] at hk; cases hk
    | some x =>
      have hp : plain1 (ρ x) = true := by dsimp only [okVals] at hv; rw [hc] at hv; exact hv
      have e0 := lenArg_some hc
      have e1 : (do let d ← resolve ρ c o.type; invoke d.target d.args : Sem Next) = (do pure (.value (← Builtin.len_ c.argTypes o.type #[ρ x])) : Sem Next) := by
        rw [e0]
        simp only [resolve, invoke, builtin, List.map_toArray, List.map_cons, List.map_nil]
        rfl
      dsimp only
      rw [e1]
      exact ⟨(Dry.len _ _ _ hp).bind (fun _ => Dry.pure _), Vals.of _⟩

/-! ### reading -/
theorem Damp.loadCellsFrom (a : Addr) : ∀ (n i : Nat) (acc : Array Value), Damp P (Go.loadCellsFrom a i n acc)
  | 0, _, _ => Damp.pure _
  | n + 1, i, acc => by
    unfold Go.loadCellsFrom
    refine Damp.bind ?_ (fun v => Damp.loadCellsFrom a n (i + 1) _)
    intro w x w' e
    unfold Go.load at e
    simp only [Sem.run] at e
    split at e
    · simp only [Result.ok.injEq] at e; exact e.2.symm
    · split at e
      · simp only [Result.ok.injEq] at e; exact e.2.symm
      · cases e
theorem Damp.load1 (a : Addr) : Damp P (Go.load a) := by
  intro w x w' e
  unfold Go.load at e
  simp only [Sem.run] at e
  split at e
  · simp only [Result.ok.injEq] at e; exact e.2.symm
  · split at e
    · simp only [Result.ok.injEq] at e; exact e.2.symm
    · cases e
theorem Damp.loadAt (t : TypeId) (x : Value) : Damp P (Instr.loadAt t x) := by
  unfold Instr.loadAt
  refine (Dry.sureAddr x).damp.bind (fun a => ?_)
  unfold Go.loadVar
  refine (Dry.isAgg t).damp.bind (fun b => ?_)
  cases b
  · exact Damp.load1 a
  · exact (Dry.sizeOf t).damp.bind (fun n => (Damp.loadCellsFrom a _ _ _).bind (fun _ => Damp.pure _))
def dampKind (P : Program) : Op → Bool
  | .load _ _ => true
  | op => dryKind P op
theorem damp_op (o : Oper) (ρ : Operand → Value) (hk : dampKind P o.op = true) (hv : okVals ρ o.op = true) : Damp P (execOp ρ o) ∧ Vals P (execOp ρ o) := by
  cases ho : o.op
  case load t a =>
    have e1 : execOp ρ o = (do pure (.value (← Instr.loadAt t (ρ a))) : Sem Next) := by unfold execOp; rw [ho]
    rw [e1]
    exact ⟨(Damp.loadAt _ _).bind (fun _ => Damp.pure _), Vals.of _⟩
  all_goals
    have h : dryKind P o.op = true := by rw [ho] at hk ⊢; exact hk
    exact ⟨(dry_op o ρ h hv).1.damp, (dry_op o ρ h hv).2⟩

/-! ### walking on: nothing panics, nothing is let out -/
/-- Neither a panic nor an outgrown end is let. -/
def Safe (Q : Exit → Act → World → Prop) : Prop := (∀ c a w, ¬ Q (.panic c) a w) ∧ ∀ a w, ¬ Q .outgrown a w
theorem Safe.then {K : Act → World → Prop} {Q : Exit → Act → World → Prop} (h : Safe Q) : Safe (Exit.then K Q) := h
theorem Safe.inBlock {id : Nat} {Q : Exit → Act → World → Prop} (h : Safe Q) : Safe (Exit.inBlock id Q) := h
/-- A call that answers, and how. -/
def Rets (R : Value → World → Prop) : Ending → World → Prop
  | .returned v, w => R v w
  | _, _ => False
theorem Rets.use {f : FuncId} {args : Array Value} {w : World} {R : Value → World → Prop} {X : Ending → World → Prop} (h : Calls P f args w (Rets R)) (hx : ∀ v w', R v w' → X (.returned v) w') : Calls P f args w X :=
  Calls.mono h fun e w' he => by
    cases e with
    | returned v => exact hx v w' he
    | _ => exact he.elim
theorem Safe.body {fn : Func} {R : Value → World → Prop} : Safe (bodyPost P fn (Rets R)) := ⟨fun _ _ _ h => h.2, fun _ _ h => h⟩

section
variable {ops : Array Oper} {Q : Exit → Act → World → Prop} {md : Region.Mode}
/-- The operation is walked (or passed over) here, with this value, and the world stays. -/
def Here (P : Program) (ops : Array Oper) (w : World) (o : Oper) (v : Value) (a : Act) : Prop :=
  (Region.wanted o (yielded ops a.tmps) = true ∧ (execOp a.eval o).run P w = .ok (.value v) w) ∨ (Region.wanted o (yielded ops a.tmps) = false ∧ v = undef)
theorem Here.wpOp {w : World} {i : Nat} {o : Oper} {v : Value} {a : Act} (hi : ops[i]? = some o) (hy : Here P ops w o v a) {K : Act → World → Prop} (h : K (a.put o.dst v) w) : wpOp P ops Q i K a w := by
  unfold Go.wpOp
  simp only [hi]
  rcases hy with ⟨h1, h2⟩ | ⟨h1, rfl⟩
  · rw [if_pos h1]; exact .inl (by unfold Oper.wp; rw [h2]; exact h)
  · rw [if_neg (by simp [h1])]; exact h
theorem Here.of_same {w : World} {o : Oper} {v : Value} {a a' : Act} (hy : Here P ops w o v a) (he : execOp a'.eval o = execOp a.eval o)
    (hw : Region.wanted o (yielded ops a'.tmps) = Region.wanted o (yielded ops a.tmps)) : Here P ops w o v a' := by
  unfold Here at *
  rw [he, hw]; exact hy
/-- What an operation's walk gives where all that is let is an answer. -/
theorem wpOp_ok {i : Nat} {o : Oper} {K : Act → World → Prop} {a : Act} {w : World} (hQ : Safe Q) (hi : ops[i]? = some o) (h : wpOp P ops Q i K a w) (hw : Region.wanted o (yielded ops a.tmps) = true) : o.wp P a w K Q := by
  unfold wpOp at h
  simp only [hi, hw, if_true] at h
  rcases h with h | ⟨_, x, y, h⟩
  · exact h
  · exact (hQ.2 _ _ h).elim
theorem upon_vals {o : Oper} {K : Act → World → Prop} {a : Act} {w : World} (hQ : Safe Q) (hv : Vals P (execOp a.eval o)) (h : o.wp P a w K Q) : ∃ v w', (execOp a.eval o).run P w = .ok (.value v) w' ∧ K (a.put o.dst v) w' := by
  unfold Oper.wp at h
  cases hr : (execOp a.eval o).run P w with
  | ok n w' =>
    obtain ⟨v, rfl⟩ := hv _ _ _ hr
    rw [hr] at h
    exact ⟨v, w', rfl, h⟩
  | halt z w' =>
    rw [hr] at h
    cases z <;> first | exact h.elim | exact (hQ.1 _ _ _ h).elim
theorem damp_here {i : Nat} {o : Oper} {K : Act → World → Prop} {a : Act} {w : World} (hQ : Safe Q) (hi : ops[i]? = some o) (hk : dampKind P o.op = true) (hv : Region.wanted o (yielded ops a.tmps) = true → okVals a.eval o.op = true) (h : wpOp P ops Q i K a w) :
    ∃ v, Here P ops w o v a ∧ K (a.put o.dst v) w := by
  cases hw : Region.wanted o (yielded ops a.tmps) with
  | true =>
    obtain ⟨v, w', hr, hK⟩ := upon_vals hQ (damp_op o a.eval hk (hv hw)).2 (wpOp_ok hQ hi h hw)
    obtain rfl := (damp_op o a.eval hk (hv hw)).1 _ _ _ hr
    exact ⟨v, .inl ⟨hw, hr⟩, hK⟩
  | false =>
    unfold wpOp at h
    simp only [hi, hw, Bool.false_eq_true, if_false] at h
    exact ⟨undef, .inr ⟨hw, rfl⟩, h⟩
theorem dry_yields {i : Nat} {o : Oper} {K : Act → World → Prop} {a : Act} {w : World} (hQ : Safe Q) (hi : ops[i]? = some o) (hk : dryKind P o.op = true) (hv : Region.wanted o (yielded ops a.tmps) = true → okVals a.eval o.op = true) (h : wpOp P ops Q i K a w) :
    ∃ v, Yields P ops o v a ∧ K (a.put o.dst v) w := by
  cases hw : Region.wanted o (yielded ops a.tmps) with
  | true =>
    obtain ⟨v, w', hr, hK⟩ := upon_vals hQ (dry_op o a.eval hk (hv hw)).2 (wpOp_ok hQ hi h hw)
    obtain ⟨rfl, h2⟩ := (dry_op o a.eval hk (hv hw)).1 _ _ _ hr
    exact ⟨v, .inl ⟨hw, h2⟩, hK⟩
  | false =>
    unfold wpOp at h
    simp only [hi, hw, Bool.false_eq_true, if_false] at h
    exact ⟨undef, .inr ⟨hw, rfl⟩, h⟩
/-- A fact on the frame that all that comes leaves as it is holds now, if it holds at the end. -/
theorem wpOps_get {φ : Act → Prop} (hQ : Safe Q) : ∀ (r : List Nat) (a : Act) (w : World), (∀ i o, i ∈ r → ops[i]? = some o → ∀ a v, φ (a.put o.dst v) → φ a) → (∀ (a : Act) d, φ { a with defers := d } → φ a) →
    wpOps P ops Q r a w → (∀ a w, Q .normal a w → φ a) → φ a
  | [], a, w, _, _, h, hφ => hφ a w h
  | i :: r, a, w, hp, hd, h, hφ => by
    have ih := fun a w => wpOps_get hQ r a w (fun j o hj => hp j o (List.mem_cons_of_mem _ hj)) hd
    rw [wpOps_cons] at h
    cases hi : ops[i]? with
    | none => unfold wpOp at h; simp only [hi] at h; exact ih _ _ h hφ
    | some o =>
      have hp0 := hp i o List.mem_cons_self hi
      cases hw : Region.wanted o (yielded ops a.tmps) with
      | false =>
        unfold wpOp at h
        simp only [hi, hw, Bool.false_eq_true, if_false] at h
        exact hp0 _ _ (ih _ _ h hφ)
      | true =>
        have h2 := wpOp_ok hQ hi h hw
        unfold Oper.wp at h2
        cases hr : (execOp a.eval o).run P w with
        | halt z w' =>
          rw [hr] at h2
          cases z <;> first | exact h2.elim | exact (hQ.1 _ _ _ h2).elim
        | ok n w' =>
          rw [hr] at h2
          cases n with
          | value v => exact hp0 _ _ (ih _ _ h2 hφ)
          | skip => exact hp0 _ _ (ih _ _ h2 hφ)
          | defer d => exact hd _ _ (hp0 _ _ (ih _ _ h2 hφ))
          | enter f args =>
            obtain ⟨e, w2, fr, he, _⟩ := h2 []
            cases e with
            | returned v => exact hp0 _ _ (ih _ _ he hφ)
            | panicked c => exact (hQ.1 _ _ _ he).elim
            | outgrown => obtain ⟨x, y, he⟩ := he; exact (hQ.2 _ _ he).elim
          | row row args =>
            obtain ⟨v, w2, he, _⟩ := h2 default []
            exact hp0 _ _ (ih _ _ he hφ)
          | _ => exact h2.elim

/-! ### one order for all -/
/-- d waits for i, at once or through others. -/
def waits (md : Region.Mode) (ops : Array Oper) (i : Nat) : Nat → Nat → Bool
  | 0, _ => false
  | f + 1, d => match ops[d]? with
    | some o => o.after.any fun e => Region.binds md e && (e.on == i || waits md ops i f e.on)
    | none => false
/-- All that is listed has what it waits for listed. -/
def Shut (md : Region.Mode) (ops : Array Oper) (l : Array Bool) : Prop := ∀ j o, ops[j]? = some o → l.getD j false = true → ∀ e ∈ o.after, Region.binds md e = true → l.getD e.on false = true
theorem Shut.start (n : Nat) : Shut md ops (Array.replicate n false) := fun j o _ h => by
  exfalso
  have : (Array.replicate n false).getD j false = false := by
    simp only [Array.getD]
    split <;> simp
  rw [this] at h; cases h
theorem getD_set_cases {l : Array Bool} {i j : Nat} (h : (l.setIfInBounds i true).getD j false = true) : j = i ∨ l.getD j false = true := by
  by_cases hij : i = j
  · exact .inl hij.symm
  · rw [getD_set_ne false hij] at h; exact .inr h
theorem Shut.set {l : Array Bool} {i : Nat} (h : Shut md ops l) (hi : i ∈ Region.ready md ops l) : Shut md ops (l.setIfInBounds i true) := fun j o ho hj e he hb => by
  rcases getD_set_cases hj with rfl | hj
  · obtain ⟨_, o', ho', hall⟩ := mem_ready.1 hi
    rw [ho] at ho'; cases ho'
    exact getD_set_true (hall e he hb)
  · exact getD_set_true (h j o ho hj e he hb)
theorem ready_lt {l : Array Bool} {i : Nat} (hi : i ∈ Region.ready md ops l) : i < l.size := by
  have h0 := (mem_ready.1 hi).1
  rcases Nat.lt_or_ge i l.size with h | h
  · exact h
  · have : ¬ i < l.size := by omega
    simp [Array.getD, this] at h0
theorem listed_false {l : Array Bool} {i : Nat} (hi : i ∈ Region.ready md ops l) : l.getD i false = false := by
  have h0 := (mem_ready.1 hi).1
  have := ready_lt hi
  simp [Array.getD, this] at h0 ⊢
  exact h0
/-- What is listed does not wait for what is not. -/
theorem not_waits {l : Array Bool} {i : Nat} (hs : Shut md ops l) (hi : l.getD i false = false) : ∀ f d, l.getD d false = true → waits md ops i f d = false
  | 0, _, _ => rfl
  | f + 1, d, hd => by
    unfold waits
    cases ho : ops[d]? with
    | none => rfl
    | some o =>
      simp only
      rw [Array.any_eq_false]
      intro k hk hc
      rw [Bool.and_eq_true, Bool.or_eq_true] at hc
      have h1 := hs d o ho hd o.after[k] (Array.getElem_mem hk) hc.1
      rcases hc.2 with h2 | h2
      · rw [beq_iff_eq] at h2
        rw [h2, hi] at h1; cases h1
      · rw [not_waits hs hi f _ h1] at h2; cases h2
theorem ready_not_waits {l : Array Bool} {i k : Nat} (hs : Shut md ops l) (hi : l.getD i false = false) (hk : k ∈ Region.ready md ops l) (f : Nat) : waits md ops i f k = false := by
  cases f with
  | zero => rfl
  | succ f =>
    obtain ⟨_, o, ho, hall⟩ := mem_ready.1 hk
    unfold waits
    simp only [ho]
    rw [Array.any_eq_false]
    intro j hj hc
    rw [Bool.and_eq_true, Bool.or_eq_true] at hc
    have h1 := hall o.after[j] (Array.getElem_mem hj) hc.1
    rcases hc.2 with h2 | h2
    · rw [beq_iff_eq] at h2
      rw [h2, hi] at h1; cases h1
    · rw [not_waits hs hi f _ h1] at h2; cases h2

theorem wpOp_get {φ : Act → Prop} (hQ : Safe Q) {i : Nat} {K : Act → World → Prop} {a : Act} {w : World} (hp : ∀ o, ops[i]? = some o → ∀ a v, φ (a.put o.dst v) → φ a) (hd : ∀ (a : Act) d, φ { a with defers := d } → φ a)
    (h : wpOp P ops Q i K a w) (hK : ∀ a w, K a w → φ a) : φ a := by
  cases hi : ops[i]? with
  | none => unfold wpOp at h; simp only [hi] at h; exact hK _ _ h
  | some o =>
    have hp0 := hp o hi
    cases hw : Region.wanted o (yielded ops a.tmps) with
    | false =>
      unfold wpOp at h
      simp only [hi, hw, Bool.false_eq_true, if_false] at h
      exact hp0 _ _ (hK _ _ h)
    | true =>
      have h2 := wpOp_ok hQ hi h hw
      unfold Oper.wp at h2
      cases hr : (execOp a.eval o).run P w with
      | halt z w' =>
        rw [hr] at h2
        cases z <;> first | exact h2.elim | exact (hQ.1 _ _ _ h2).elim
      | ok n w' =>
        rw [hr] at h2
        cases n with
        | value v => exact hp0 _ _ (hK _ _ h2)
        | skip => exact hp0 _ _ (hK _ _ h2)
        | defer d => exact hd _ _ (hp0 _ _ (hK _ _ h2))
        | enter f args =>
          obtain ⟨e, w2, fr, he, _⟩ := h2 []
          cases e with
          | returned v => exact hp0 _ _ (hK _ _ he)
          | panicked c => exact (hQ.1 _ _ _ he).elim
          | outgrown => obtain ⟨x, y, he⟩ := he; exact (hQ.2 _ _ he).elim
        | row row args =>
          obtain ⟨v, w2, he, _⟩ := h2 default []
          exact hp0 _ _ (hK _ _ he)
        | _ => exact h2.elim
/-- In whatever order: behind each operation of T the world meets S. -/
def wpAnyT (P : Program) (md : Region.Mode) (ops : Array Oper) (Q : Exit → Act → World → Prop) (S : World → Prop) (T : List Nat) : Nat → Array Bool → Act → World → Prop
  | 0, l, a, w => Region.ready md ops l = [] ∧ Q .normal a w
  | fuel + 1, l, a, w =>
    (Region.ready md ops l = [] → Q .normal a w) ∧
    ∀ i ∈ Region.ready md ops l, wpOp P ops Q i (fun a' w' => (T.contains i = true → S w') ∧ wpAnyT P md ops Q S T fuel (l.setIfInBounds i true) a' w') a w
variable {S : World → Prop} {T : List Nat}
theorem wpAnyT_any : ∀ (fuel : Nat) (l : Array Bool) (a : Act) (w : World), wpAnyT P md ops Q S T fuel l a w → wpAny P md ops Q fuel l a w
  | 0, _, _, _, h => h
  | fuel + 1, _, _, _, h => ⟨h.1, fun i hi => wpOp_mono (fun a w hh => wpAnyT_any fuel _ a w hh.2) (h.2 i hi)⟩
theorem wpAny_get {φ : Act → Prop} (hQ : Safe Q) (hd : ∀ (a : Act) d, φ { a with defers := d } → φ a) (hφ : ∀ a w, Q .normal a w → φ a) : ∀ (fuel : Nat) (l : Array Bool) (a : Act) (w : World),
    (∀ j o, ops[j]? = some o → l.getD j true = false → ∀ a v, φ (a.put o.dst v) → φ a) → wpAnyT P md ops Q S T fuel l a w → φ a
  | 0, l, a, w, _, h => hφ a w h.2
  | fuel + 1, l, a, w, hp, h => by
    cases hr : Region.ready md ops l with
    | nil => exact hφ a w (h.1 hr)
    | cons i rs =>
      have hi : i ∈ Region.ready md ops l := by rw [hr]; exact List.mem_cons_self
      refine wpOp_get hQ (fun o ho => hp i o ho (mem_ready.1 hi).1) hd (h.2 i hi) (fun a w hh => wpAny_get hQ hd hφ fuel _ a w (fun j o ho hj => hp j o ho ?_) hh.2)
      by_cases hij : i = j
      · subst hij; exact (mem_ready.1 hi).1
      · rw [getD_set_ne true hij] at hj; exact hj
/-- Its operands are as they must be, if it is walked. -/
def Fits (ops : Array Oper) (o : Oper) (a : Act) : Prop := Region.wanted o (yielded ops a.tmps) = true → okVals a.eval o.op = true
theorem okVals_congr {ρ ρ' : Operand → Value} (op : Op) (h : ∀ x ∈ op.operands, ρ x = ρ' x) : okVals ρ op = okVals ρ' op := by
  cases op <;> try rfl
  case nilCheck x => dsimp only [okVals]; rw [h x (by simp [Op.operands])]
  case convert s d x => dsimp only [okVals]; rw [h x (by simp [Op.operands])]
  case binOp op t x y yt => dsimp only [okVals]; rw [h x (by simp [Op.operands]), h y (by simp [Op.operands])]
  case call c =>
    dsimp only [okVals]
    cases hc : lenArg c with
    | none => rfl
    | some x =>
      have e0 := lenArg_some hc
      simp only
      rw [h x (by rw [e0]; simp [Op.operands, Call.operands])]
/-- It takes any values. -/
def dull : Op → Bool
  | .move _ | .assign _ | .pick _ _ _ => true
  | _ => false
/-- What must stand as it was for an operation's operands to fit. -/
def looksF (ops : Array Oper) (o : Oper) : List Tmp := if dull o.op then [] else o.looksAt ops
theorem Fits.put0 {o : Oper} {a : Act} {d : Option Tmp} {v : Value} (hd : ∀ t, d = some t → t ∉ o.looksAt ops) (h : Fits ops o (a.put d v)) : Fits ops o a := fun hw => by
  have h1 := h (by rw [wanted_put o a d v hd]; exact hw)
  rw [← h1]
  refine (okVals_congr o.op (fun x hx => ?_)).symm
  exact Act.eval_put fun t ht hxt => hd t ht (by
    subst hxt
    exact List.mem_append_left _ (List.mem_filterMap.2 ⟨.tmp t, by simpa using hx, rfl⟩))
theorem Fits.put {o : Oper} {a : Act} {d : Option Tmp} {v : Value} (hd : ∀ t, d = some t → t ∉ looksF ops o) (h : Fits ops o (a.put d v)) : Fits ops o a := by
  unfold looksF at hd
  by_cases hu : dull o.op = true
  · intro _
    cases ho : o.op <;> rw [ho] at hu <;> first | rfl | cases hu
  · rw [if_neg hu] at hd
    exact Fits.put0 hd h
theorem Fits.defers {o : Oper} {a : Act} {d : List Deferred} (h : Fits ops o { a with defers := d }) : Fits ops o a := fun hw => by
  have h1 := h hw
  rw [← h1]
  exact okVals_congr o.op (fun x _ => by cases x <;> rfl)
/-- What an operation looks at is laid by what it waits for alone. -/
def prodB (md : Region.Mode) (ops : Array Oper) : Bool := (List.range ops.size).all fun k => match ops[k]? with
  | some o => (List.range ops.size).all fun j => match ops[j]? with
    | some p => (match p.dst with | some d => !(looksF ops o).contains d || waits md ops j ops.size k | none => true)
    | none => true
  | none => true
theorem prodB_spec (h : prodB md ops = true) {k j : Nat} {o p : Oper} (hk : ops[k]? = some o) (hj : ops[j]? = some p) (hw : waits md ops j ops.size k = false) : ∀ t, p.dst = some t → t ∉ looksF ops o := fun t ht hm => by
  unfold prodB at h
  have h1 := List.all_eq_true.1 h k (List.mem_range.2 (Array.getElem?_eq_some_iff.1 hk).1)
  rw [hk] at h1
  have h2 := List.all_eq_true.1 h1 j (List.mem_range.2 (Array.getElem?_eq_some_iff.1 hj).1)
  rw [hj] at h2
  simp only [ht] at h2
  rw [hw, Bool.or_false, Bool.not_eq_true'] at h2
  rw [List.contains_iff_mem.2 hm] at h2
  cases h2
theorem getD_false {l : Array Bool} {j : Nat} (hl : l.getD j true = false) : l.getD j false = false := by
  rcases Nat.lt_or_ge j l.size with h' | h'
  · simp [Array.getD, h'] at hl ⊢; exact hl
  · have : ¬ j < l.size := by omega
    simp [Array.getD, this]
/-- A fact on what an operation looks at, which holds at the end, holds where it is ready. -/
theorem fact_any {φ : Act → Prop} {fuel : Nat} {l : Array Bool} {a : Act} {w : World} {k : Nat} {o : Oper} (hQ : Safe Q) (hP : prodB md ops = true) (hput : ∀ (d : Option Tmp) (a : Act) v, (∀ t, d = some t → t ∉ looksF ops o) → φ (a.put d v) → φ a) (hdef : ∀ (a : Act) d, φ { a with defers := d } → φ a)
    (hφ : ∀ a w, Q .normal a w → φ a) (hs : Shut md ops l) (hk : ops[k]? = some o) (hr : k ∈ Region.ready md ops l) (h : wpAnyT P md ops Q S T fuel l a w) : φ a :=
  wpAny_get hQ hdef hφ fuel l a w (fun _ p hj hl a v => hput p.dst a v (prodB_spec hP hk hj (ready_not_waits hs (getD_false hl) hr _))) h
/-- The same with the operation itself behind the walk. -/
theorem fact_op {φ : Act → Prop} {fuel : Nat} {l : Array Bool} {a : Act} {w : World} {k : Nat} {o : Oper} {B : World → Prop} (hQ : Safe Q) (hP : prodB md ops = true) (hput : ∀ (d : Option Tmp) (a : Act) v, (∀ t, d = some t → t ∉ looksF ops o) → φ (a.put d v) → φ a) (hdef : ∀ (a : Act) d, φ { a with defers := d } → φ a)
    (hφ : ∀ a w, Q .normal a w → φ a) (hs : Shut md ops l) (hk : ops[k]? = some o) (hr : k ∈ Region.ready md ops l) (h : wpOp P ops Q k (fun a w => B w ∧ wpAnyT P md ops Q S T fuel (l.setIfInBounds k true) a w) a w) : φ a := by
  refine wpOp_get hQ (fun p hp a v => ?_) hdef h (fun a' w' hh => ?_)
  · rw [hk] at hp
    cases hp
    exact hput _ a v (prodB_spec hP hk hk (ready_not_waits hs (listed_false hr) hr _))
  · refine wpAny_get hQ hdef hφ fuel _ a' w' (fun j p hj hl a v => hput p.dst a v (prodB_spec hP hk hj ?_)) hh.2
    have hjf : l.getD j false = false := by
      by_cases hij : k = j
      · subst hij; exact listed_false hr
      · rw [getD_set_ne true hij] at hl; exact getD_false hl
    exact ready_not_waits hs hjf hr _
/-- The operation yields v in every world that meets S'. -/
def Stable (P : Program) (ops : Array Oper) (S' : World → Prop) (o : Oper) (v : Value) (a : Act) : Prop := ∀ w, S' w → Here P ops w o v a
theorem Stable.of_same {S' : World → Prop} {o : Oper} {v : Value} {a a' : Act} (hy : Stable P ops S' o v a) (he : execOp a'.eval o = execOp a.eval o)
    (hw : Region.wanted o (yielded ops a'.tmps) = Region.wanted o (yielded ops a.tmps)) : Stable P ops S' o v a' := fun w h => (hy w h).of_same he hw
theorem wpOp_putS {S' : World → Prop} {j : Nat} {oi oj : Oper} {v : Value} (hQ : Safe Q) (hj : ops[j]? = some oj) (hap : oi.apart ops oj = true)
    (hsi : ∀ cs b, oi.op ≠ .select cs b) (hsj : ∀ cs b, oj.op ≠ .select cs b) {K : Act → World → Prop} {a : Act} {w : World}
    (hy : Stable P ops S' oi v a) (h : wpOp P ops Q j K (a.put oi.dst v) w) :
    wpOp P ops Q j (fun a' w' => Stable P ops S' oi v a' ∧ K (a'.put oi.dst v) w') a w := by
  obtain ⟨h1, h2, h3⟩ := Oper.apart_spec hap
  have keep : ∀ (a : Act), Stable P ops S' oi v a → ∀ u, Stable P ops S' oi v (a.put oj.dst u) := fun a hy u =>
    hy.of_same (execOp_put oi hsi a oj.dst u h3) (wanted_put oi a oj.dst u h3)
  have keepD : ∀ d, Stable P ops S' oi v { a with defers := d :: a.defers } := fun d => hy.of_same rfl rfl
  unfold wpOp at *
  simp only [hj] at *
  rw [wanted_put oj a oi.dst v h1] at h
  split
  · rename_i hw
    simp only [hw, if_true] at h
    rcases h with h | ⟨_, x, y, hlets⟩
    case inr => exact (hQ.2 _ _ hlets).elim
    refine .inl ?_
    unfold Oper.wp at *
    rw [execOp_put oj hsj a oi.dst v h1] at h
    generalize (execOp a.eval oj).run P w = r at *
    cases r with
    | ok n w' =>
      cases n <;> simp only [Oper.upon] at h ⊢
      case value u => exact ⟨keep a hy u, by rw [← Act.put_comm a v u h2]; exact h⟩
      case skip => exact ⟨keep a hy _, by rw [← Act.put_comm a v undef h2]; exact h⟩
      case defer d =>
        refine ⟨keep _ (keepD d) _, ?_⟩
        rw [← Act.put_comm _ v undef h2, ← Act.put_defers]
        exact h
      case enter f args =>
        refine Calls.mono h fun e w'' he => ?_
        cases e with
        | returned u => exact ⟨keep a hy u, by rw [← Act.put_comm a v u h2]; exact he⟩
        | panicked c => exact (hQ.1 _ _ _ he).elim
        | outgrown => exact he
      case row row args => exact Rows.mono h fun u w'' he => ⟨keep a hy u, by rw [← Act.put_comm a v u h2]; exact he⟩
    | halt x w' =>
      cases x <;> simp only [Oper.upon] at h ⊢
      case panic u => exact (hQ.1 _ _ _ h).elim
  · rename_i hw
    simp only [hw] at h
    exact ⟨keep a hy _, by rw [← Act.put_comm a v undef h2]; exact h⟩
/-- An operation may come first, where all that may come ahead of it only reads, or keeps what it stands on. -/
theorem first_ {S' : World → Prop} {i : Nat} {oi : Oper} {v : Value} (hQ : Safe Q) (hP : prodB md ops = true) (hφ : ∀ (k : Nat) (o : Oper), ops[k]? = some o → ∀ a w, Q .normal a w → Fits ops o a) (hi : ops[i]? = some oi) (hsel : Region.noSelect ops = true) (hiT : T.contains i = false) :
    ∀ (fuel : Nat) (l : Array Bool) (a : Act) (w : World), Shut md ops l → S' w →
      (∀ j oj, ops[j]? = some oj → j ≠ i → l.getD j true = false → (∀ e ∈ oj.after, Region.binds md e = true → e.on ≠ i) → oi.apart ops oj = true) →
      (∀ j oj, ops[j]? = some oj → j ≠ i → l.getD j true = false → waits md ops i ops.size j = false → dampKind P oj.op = true ∨ ∀ w, (T.contains j = true → S w) → S' w) →
      i ∈ Region.ready md ops l → Stable P ops S' oi v a →
      wpAnyT P md ops Q S T fuel (l.setIfInBounds i true) (a.put oi.dst v) w → wpAnyT P md ops Q S T (fuel + 1) l a w := by
  intro fuel
  induction fuel with
  | zero =>
    intro l a w _ hS _ _ hr hy H
    refine ⟨fun h => (by rw [h] at hr; cases hr), fun j hj => ?_⟩
    by_cases hji : j = i
    · subst hji; exact (hy w hS).wpOp hi ⟨fun h => (by rw [hiT] at h; cases h), H⟩
    · have := ready_mono hj hji
      rw [H.1] at this
      cases this
  | succ fuel ih =>
    intro l a w hs hS hfree hquiet hr hy H
    refine ⟨fun h => (by rw [h] at hr; cases hr), fun k hk => ?_⟩
    by_cases hki : k = i
    · subst hki; exact (hy w hS).wpOp hi ⟨fun h => (by rw [hiT] at h; cases h), H⟩
    · have hk2 := ready_mono hk hki
      have h1 := H.2 k hk2
      obtain ⟨hkun, ok, hok, hall⟩ := mem_ready.1 hk
      have hif := listed_false hr
      have hnot : ∀ e ∈ ok.after, Region.binds md e = true → e.on ≠ i := fun e he hb heq => by
        have h1 := hall e he hb
        rw [heq, hif] at h1
        cases h1
      have hap := hfree k ok hok hki hkun hnot
      obtain ⟨p1, p2, p3⟩ := Oper.apart_spec hap
      have hsi := fun cs b => Region.noSelect_spec hsel i oi cs b hi
      have hsk := fun cs b => Region.noSelect_spec hsel k ok cs b hok
      have hun : ∀ j, (l.setIfInBounds k true).getD j true = false → l.getD j true = false := fun j hj => by
        by_cases hkj : k = j
        · subst hkj; exact hkun
        · rw [getD_set_ne true hkj] at hj; exact hj
      have next : ∀ a' w', S' w' → Stable P ops S' oi v a' → wpAnyT P md ops Q S T fuel ((l.setIfInBounds i true).setIfInBounds k true) (a'.put oi.dst v) w' → wpAnyT P md ops Q S T (fuel + 1) (l.setIfInBounds k true) a' w' := fun a' w' hS' hy' hh => by
        refine ih (l.setIfInBounds k true) a' w' (hs.set hk) hS' (fun j oj hj hji hl => hfree j oj hj hji (hun j hl)) (fun j oj hj hji hl => hquiet j oj hj hji (hun j hl)) (ready_mono hr (Ne.symm hki)) hy' ?_
        rw [Array.setIfInBounds_comm _ _ hki]
        exact hh
      rcases hquiet k ok hok hki hkun (ready_not_waits hs hif hk _) with hdk | hkeep
      · have hfit : Fits ops ok (a.put oi.dst v) := fact_any hQ hP (fun d a v hd => Fits.put hd) (fun a d => Fits.defers) (hφ k ok hok) (hs.set hr) hok hk2 H
        obtain ⟨u, hyk, hT, hK⟩ := damp_here hQ hok hdk hfit h1
        have hyk' : Here P ops w ok u a := hyk.of_same (execOp_put ok hsk a oi.dst v p1).symm (wanted_put ok a oi.dst v p1).symm
        refine hyk'.wpOp hok ⟨hT, next _ _ hS (hy.of_same (execOp_put oi hsi a ok.dst u p3) (wanted_put oi a ok.dst u p3)) ?_⟩
        rw [Act.put_comm a u v (fun d hd hd2 => p2 d hd2 hd)]
        exact hK
      · exact wpOp_mono (fun a' w' hh => ⟨hh.2.1, next a' w' (hkeep w' hh.2.1) hh.1 hh.2.2⟩) (wpOp_putS hQ hok hap hsi hsk hy h1)

/-! ### what is held: cells that all that comes ahead of a load keeps -/
def Cells (L : List (Addr × Value)) (w : World) : Prop := ∀ p ∈ L, w.cell? p.1 = some p.2
/-- A load of one of the cells. -/
def HeldAt (ops : Array Oper) (L : List (Addr × Value)) (o : Oper) (k : Nat) (a : Act) : Prop := Region.wanted o (yielded ops a.tmps) = true → match o.op with
  | .load _ x => match L[k]? with
    | some p => a.eval x = .pointer (some p.1)
    | none => False
  | _ => True
def HeldAll (ops : Array Oper) (L : List (Addr × Value)) (a : Act) : List (Nat × Nat) → Prop
  | [] => True
  | q :: r => (match ops[q.1]? with | some o => HeldAt ops L o q.2 a | none => False) ∧ HeldAll ops L a r
theorem HeldAll.get {L : List (Addr × Value)} {a : Act} : ∀ {H : List (Nat × Nat)}, HeldAll ops L a H → ∀ q ∈ H, ∀ o, ops[q.1]? = some o → HeldAt ops L o q.2 a
  | [], _, _, hq, _, _ => by cases hq
  | x :: r, h, q, hq, o, ho => by
    rcases List.mem_cons.1 hq with rfl | hq
    · have h1 := h.1
      rw [ho] at h1
      exact h1
    · exact HeldAll.get h.2 q hq o ho
theorem HeldAt.put0 {L : List (Addr × Value)} {o : Oper} {k : Nat} (d : Option Tmp) (a : Act) (v : Value) (hd : ∀ t, d = some t → t ∉ o.looksAt ops) (h : HeldAt ops L o k (a.put d v)) : HeldAt ops L o k a := fun hw => by
  have h1 := h (by rw [wanted_put o a d v hd]; exact hw)
  cases ho : o.op <;> simp only [ho] at h1 ⊢
  case load t x =>
    cases hk : L[k]? <;> simp only [hk] at h1 ⊢
    rw [← h1]
    exact (Act.eval_put fun t ht hxt => hd t ht (by
      subst hxt
      exact List.mem_append_left _ (List.mem_filterMap.2 ⟨.tmp t, by simp [ho, Op.operands], rfl⟩))).symm
theorem HeldAt.put {L : List (Addr × Value)} {o : Oper} {k : Nat} (d : Option Tmp) (a : Act) (v : Value) (hd : ∀ t, d = some t → t ∉ looksF ops o) (h : HeldAt ops L o k (a.put d v)) : HeldAt ops L o k a := by
  unfold looksF at hd
  by_cases hu : dull o.op = true
  · intro _
    cases ho : o.op <;> simp [ho, dull] at hu ⊢
  · rw [if_neg hu] at hd
    exact HeldAt.put0 d a v hd h
theorem HeldAt.defers {L : List (Addr × Value)} {o : Oper} {k : Nat} (a : Act) (d : List Deferred) (h : HeldAt ops L o k { a with defers := d }) : HeldAt ops L o k a := fun hw => by
  have h1 := h hw
  cases ho : o.op <;> simp only [ho] at h1 ⊢
  case load t x =>
    cases hk : L[k]? <;> simp only [hk] at h1 ⊢
    rw [← h1]
    cases x <;> rfl
def oneCellLoad (P : Program) : Op → Bool
  | .load t _ => match P.underlying t with | some (.struct _) | some (.array _ _) | none => false | _ => true
  | _ => false
theorem held_stable {L : List (Addr × Value)} {o : Oper} {k : Nat} {a : Act} {w : World} {v : Value} (h1 : oneCellLoad P o.op = true) (hH : HeldAt ops L o k a) (hS : Cells L w) (hy : Here P ops w o v a) : Stable P ops (Cells L) o v a := fun w' hS' => by
  rcases hy with ⟨hw, hr⟩ | hy
  · refine .inl ⟨hw, ?_⟩
    have h2 := hH hw
    cases ho : o.op <;> rw [ho] at h2 h1 <;> first | (exfalso; exact Bool.noConfusion h1) | skip
    case load t x =>
      simp only at h2
      cases hk : L[k]? <;> simp only [hk] at h2
      rename_i p
      have hp : p ∈ L := List.mem_of_getElem? hk
      have hag : ∀ w, (Go.isAgg t).run P w = .ok false w := fun w => by
        unfold Go.isAgg
        have h1' : (match P.underlying t with | some (.struct _) | some (.array _ _) | none => false | _ => true) = true := h1
        clear h1
        cases hu : P.underlying t with
        | none => simp [hu] at h1'
        | some d =>
          rw [Sem.run_bind, run_underlying hu]
          cases d <;> first | (simp only [Result.andThen]; rfl) | (simp [hu] at h1')
      have go : ∀ w, Cells L w → (execOp a.eval o).run P w = .ok (.value p.2) w := fun w hc => by
        unfold execOp
        simp only [ho, h2, Instr.loadAt, Instr.sureAddr, Sem.run_bind, Sem.run_pure, Result.andThen_ok, Go.loadVar, hag, Bool.false_eq_true, if_false]
        simp [Go.load, Sem.run, hc p hp]
      rw [go w hS] at hr
      simp only [Result.ok.injEq, Next.value.injEq, and_true] at hr
      rw [← hr]
      exact go w' hS'
  · exact .inr hy

/-! ### plans -/
inductive Plan where
  | stop
  | seg (r : List Nat) (p : Plan)
  | hold (r : List Nat) (p : Plan)
  | loud (i : Nat) (p : Plan)
  | fork (i : Nat) (p : Plan) (j : Nat) (q : Plan)
def pick (ops : Array Oper) : List Nat → List Oper
  | [] => []
  | i :: r => match ops[i]? with | some o => o :: pick ops r | none => pick ops r
theorem wpOps_pick (r : List Nat) : wpOps P ops Q r = wpList P ops Q (pick ops r) := by
  induction r with
  | nil => funext a w; simp [wpOps, wpList, pick]
  | cons i r ih =>
    funext a w
    unfold pick
    cases hi : ops[i]? with
    | none => simp only [wpOps, hi]; rw [ih]
    | some o => simp only [wpOps, hi, wpList, ih]
/-- What is to be shown of a plan. -/
def wpPlan (P : Program) (ops : Array Oper) (Q : Exit → Act → World → Prop) (S : World → Prop) : Plan → Act → World → Prop
  | .stop, a, w => Q .normal a w
  | .seg r p, a, w => wpList P ops (Exit.then (wpPlan P ops Q S p) Q) (pick ops r) a w
  | .hold r p, a, w => S w ∧ wpList P ops (Exit.then (wpPlan P ops Q S p) Q) (pick ops r) a w
  | .loud i p, a, w => wpList P ops (Exit.then (fun a w => S w ∧ wpPlan P ops Q S p a w) Q) (pick ops [i]) a w
  | .fork i p j q, a, w => wpList P ops (Exit.then (fun a w => S w ∧ wpPlan P ops Q S p a w) Q) (pick ops [i]) a w ∧ wpList P ops (Exit.then (fun a w => S w ∧ wpPlan P ops Q S q a w) Q) (pick ops [j]) a w
def aheadB (P : Program) (md : Region.Mode) (ops : Array Oper) (T : List Nat) (l : Array Bool) (i : Nat) : Bool := (List.range ops.size).all fun j => match ops[j]? with
  | some o => j == i || l.getD j true || waits md ops i ops.size j || dampKind P o.op || T.contains j
  | none => true
theorem aheadB_spec {l : Array Bool} {i : Nat} (h : aheadB P md ops T l i = true) (j : Nat) (oj : Oper) (hj : ops[j]? = some oj) (hji : j ≠ i) (hl : l.getD j true = false) (hw : waits md ops i ops.size j = false) : dampKind P oj.op = true ∨ T.contains j = true := by
  have h1 := List.all_eq_true.1 h j (List.mem_range.2 (Array.getElem?_eq_some_iff.1 hj).1)
  rw [hj] at h1
  simpa [hji, hl, hw] using h1
def okA (P : Program) (md : Region.Mode) (ops : Array Oper) (l : Array Bool) (i : Nat) : Bool := match ops[i]? with
  | some o => dryKind P o.op && Region.free md ops l i
  | none => false
def okC (P : Program) (md : Region.Mode) (ops : Array Oper) (l : Array Bool) (i : Nat) : Bool := match ops[i]? with
  | some o => dampKind P o.op && Region.free md ops l i && aheadB P md ops [] l i
  | none => false
def okD (P : Program) (md : Region.Mode) (ops : Array Oper) (T : List Nat) (H : List (Nat × Nat)) (l : Array Bool) (i : Nat) : Bool := match ops[i]? with
  | some o => oneCellLoad P o.op && Region.free md ops l i && aheadB P md ops T l i && H.any (·.1 == i)
  | none => false
def segB (P : Program) (md : Region.Mode) (ops : Array Oper) (T : List Nat) : List Nat → Array Bool → Option (Array Bool)
  | [], l => some l
  | i :: r, l => if (Region.ready md ops l).contains i && !T.contains i && (okA P md ops l i || (Region.ready md ops l == [i]) || okC P md ops l i) then segB P md ops T r (l.setIfInBounds i true) else none
def holdB (P : Program) (md : Region.Mode) (ops : Array Oper) (T : List Nat) (H : List (Nat × Nat)) : List Nat → Array Bool → Option (Array Bool)
  | [], l => some l
  | i :: r, l => if (Region.ready md ops l).contains i && !T.contains i && (okA P md ops l i || okC P md ops l i || okD P md ops T H l i) then holdB P md ops T H r (l.setIfInBounds i true) else none
def planB (P : Program) (md : Region.Mode) (ops : Array Oper) (T : List Nat) (H : List (Nat × Nat)) : Plan → Array Bool → Bool
  | .stop, l => (Region.ready md ops l).isEmpty
  | .seg r p, l => match segB P md ops T r l with
    | some l' => planB P md ops T H p l'
    | none => false
  | .hold r p, l => match holdB P md ops T H r l with
    | some l' => planB P md ops T H p l'
    | none => false
  | .loud i p, l => (Region.ready md ops l == [i]) && planB P md ops T H p (l.setIfInBounds i true)
  | .fork i p j q, l => (Region.ready md ops l == [i, j]) && planB P md ops T H p (l.setIfInBounds i true) && planB P md ops T H q (l.setIfInBounds j true)
theorem wpList_pick_cons {i : Nat} {r : List Nat} {a : Act} {w : World} : wpList P ops Q (pick ops (i :: r)) a w = wpOp P ops Q i (wpList P ops Q (pick ops r)) a w := by
  rw [← wpOps_pick, wpOps_cons, ← wpOps_pick]
/-- Only what is let on normally matters. -/
theorem wpOp_then {i : Nat} {K K' : Act → World → Prop} {a : Act} {w : World} (h : wpOp P ops (Exit.then K' Q) i K a w) (hQ : Safe Q) : wpOp P ops Q i K a w := by
  unfold wpOp at *
  split at h
  · exact h
  · split at h
    · rename_i hw
      rw [if_pos hw]
      rcases h with h | ⟨_, x, y, h⟩
      · refine .inl ?_
        unfold Oper.wp at *
        generalize Sem.run P _ w = res at *
        cases res with
        | ok nx w' =>
          cases nx <;> simp only [Oper.upon] at h ⊢ <;> first
            | exact h
            | exact Calls.mono h (fun e w'' he => by cases e <;> first | exact he | (obtain ⟨x, y, he⟩ := he; exact (hQ.2 _ _ he).elim))
        | halt z w' => cases z <;> simp only [Oper.upon] at h ⊢ <;> exact h
      · exact (hQ.2 _ _ h).elim
    · rename_i hw
      rw [if_neg hw]; exact h
/-- How many operations a plan has. -/
def Plan.size : Plan → Nat
  | .stop => 0
  | .seg r p => r.length + p.size
  | .hold r p => r.length + p.size
  | .loud _ p => p.size + 1
  | .fork _ p _ _ => p.size + 1
def Plan.even : Plan → Bool
  | .stop => true
  | .seg _ p => p.even
  | .hold _ p => p.even
  | .loud _ p => p.even
  | .fork _ p _ q => p.even && q.even && (p.size == q.size)
section
variable {L : List (Addr × Value)} {H : List (Nat × Nat)}
/-- What holds of Q at the end. -/
structure Ends (ops : Array Oper) (Q : Exit → Act → World → Prop) (L : List (Addr × Value)) (H : List (Nat × Nat)) : Prop where
  fits : ∀ (k : Nat) (o : Oper), ops[k]? = some o → ∀ a w, Q .normal a w → Fits ops o a
  held : ∀ q ∈ H, ∀ o, ops[q.1]? = some o → ∀ a w, Q .normal a w → HeldAt ops L o q.2 a
theorem any_one {i n : Nat} {l : Array Bool} {a : Act} {w : World} (hr : Region.ready md ops l = [i]) (h : wpOp P ops Q i (fun a' w' => (T.contains i = true → S w') ∧ wpAnyT P md ops Q S T n (l.setIfInBounds i true) a' w') a w) : wpAnyT P md ops Q S T (n + 1) l a w :=
  ⟨fun h0 => (by rw [hr] at h0; cases h0), fun j hj => by rw [hr, List.mem_singleton] at hj; subst hj; exact h⟩
theorem stepA {i n : Nat} {l : Array Bool} {a : Act} {w : World} (hQ : Safe Q) (hP : prodB md ops = true) (hsel : Region.noSelect ops = true) (hE : Ends ops Q L H) (hs : Shut md ops l) (hr : i ∈ Region.ready md ops l) (hiT : T.contains i = false) (ha : okA P md ops l i = true)
    (h : wpOp P ops Q i (fun a' w' => wpAnyT P md ops Q (Cells L) T n (l.setIfInBounds i true) a' w') a w) : wpAnyT P md ops Q (Cells L) T (n + 1) l a w := by
  unfold okA at ha
  cases hi : ops[i]? with
  | none => rw [hi] at ha; cases ha
  | some o =>
    rw [hi] at ha
    simp only [Bool.and_eq_true] at ha
    have hfit : Fits ops o a := fact_op (B := fun _ => True) hQ hP (fun d a v hd => Fits.put hd) (fun a d => Fits.defers) (hE.fits i o hi) hs hi hr (wpOp_mono (fun a w hh => ⟨trivial, hh⟩) h)
    obtain ⟨v, hy, hK⟩ := dry_yields hQ hi ha.1 hfit h
    refine first_ (S' := fun _ => True) hQ hP hE.fits hi hsel hiT n l a w hs trivial (Region.free_spec hi ha.2) (fun _ _ _ _ _ _ => .inr (fun _ _ => trivial)) hr (fun w' _ => ?_) hK
    rcases hy with ⟨h1, h2⟩ | h1
    · exact .inl ⟨h1, h2 w'⟩
    · exact .inr h1
theorem stepC {i n : Nat} {l : Array Bool} {a : Act} {w : World} (hQ : Safe Q) (hP : prodB md ops = true) (hsel : Region.noSelect ops = true) (hE : Ends ops Q L H) (hs : Shut md ops l) (hr : i ∈ Region.ready md ops l) (hiT : T.contains i = false) (ha : okC P md ops l i = true)
    (h : wpOp P ops Q i (fun a' w' => wpAnyT P md ops Q (Cells L) T n (l.setIfInBounds i true) a' w') a w) : ∃ o v, ops[i]? = some o ∧ wpAnyT P md ops Q (Cells L) T n (l.setIfInBounds i true) (a.put o.dst v) w ∧ wpAnyT P md ops Q (Cells L) T (n + 1) l a w := by
  unfold okC at ha
  cases hi : ops[i]? with
  | none => rw [hi] at ha; cases ha
  | some o =>
    rw [hi] at ha
    simp only [Bool.and_eq_true] at ha
    have hfit : Fits ops o a := fact_op (B := fun _ => True) hQ hP (fun d a v hd => Fits.put hd) (fun a d => Fits.defers) (hE.fits i o hi) hs hi hr (wpOp_mono (fun a w hh => ⟨trivial, hh⟩) h)
    obtain ⟨v, hy, hK⟩ := damp_here hQ hi ha.1.1 hfit h
    refine ⟨o, v, rfl, hK, first_ (S' := fun w' => w' = w) hQ hP hE.fits hi hsel hiT n l a w hs rfl (Region.free_spec hi ha.1.2) (fun j oj hj hji hl hw => ?_) hr (fun w' e => by subst e; exact hy) hK⟩
    rcases aheadB_spec (T := []) ha.2 j oj hj hji hl hw with h1 | h1
    · exact .inl h1
    · cases h1
theorem stepD {i n : Nat} {l : Array Bool} {a : Act} {w : World} (hQ : Safe Q) (hP : prodB md ops = true) (hsel : Region.noSelect ops = true) (hE : Ends ops Q L H) (hs : Shut md ops l) (hr : i ∈ Region.ready md ops l) (hiT : T.contains i = false) (ha : okD P md ops T H l i = true) (hS : Cells L w)
    (h : wpOp P ops Q i (fun a' w' => wpAnyT P md ops Q (Cells L) T n (l.setIfInBounds i true) a' w') a w) : wpAnyT P md ops Q (Cells L) T (n + 1) l a w := by
  unfold okD at ha
  cases hi : ops[i]? with
  | none => rw [hi] at ha; cases ha
  | some o =>
    rw [hi] at ha
    simp only [Bool.and_eq_true, List.any_eq_true, beq_iff_eq] at ha
    obtain ⟨⟨⟨h1, h2⟩, h3⟩, ⟨i', k⟩, hq, e⟩ := ha
    simp only at e
    subst e
    have hd : dampKind P o.op = true := by
      cases ho : o.op <;> rw [ho] at h1 <;> first | rfl | cases h1
    have hfit : Fits ops o a := fact_op (B := fun _ => True) hQ hP (fun d a v hd => Fits.put hd) (fun a d => Fits.defers) (hE.fits _ o hi) hs hi hr (wpOp_mono (fun a w hh => ⟨trivial, hh⟩) h)
    have hheld : HeldAt ops L o k a := fact_op (B := fun _ => True) hQ hP (fun d a v hd => HeldAt.put d a v hd) (fun a d => HeldAt.defers a d) (hE.held _ hq o hi) hs hi hr (wpOp_mono (fun a w hh => ⟨trivial, hh⟩) h)
    obtain ⟨v, hy, hK⟩ := damp_here hQ hi hd hfit h
    refine first_ (S' := Cells L) hQ hP hE.fits hi hsel hiT n l a w hs hS (Region.free_spec hi h2) (fun j oj hj hji hl hw => ?_) hr (held_stable h1 hheld hS hy) hK
    rcases aheadB_spec h3 j oj hj hji hl hw with h1 | h1
    · exact .inl h1
    · exact .inr (fun w hh => hh h1)
theorem wpOp_damp_world {i : Nat} {o : Oper} {K : Act → World → Prop} {a : Act} {w : World} (hQ : Safe Q) (hi : ops[i]? = some o) (hk : dampKind P o.op = true) (hf : Fits ops o a) (h : wpOp P ops Q i K a w) : wpOp P ops Q i (fun a' w' => w' = w ∧ K a' w') a w := by
  obtain ⟨v, hy, hK⟩ := damp_here hQ hi hk hf h
  exact hy.wpOp hi ⟨rfl, hK⟩
theorem seg_any (hQ : Safe Q) (hP : prodB md ops = true) (hsel : Region.noSelect ops = true) (hE : Ends ops Q L H) {K : Act → World → Prop} {n : Nat} {l' : Array Bool}
    (hK : Shut md ops l' → ∀ a w, K a w → wpAnyT P md ops Q (Cells L) T n l' a w) :
    ∀ (r : List Nat) (l : Array Bool) (a : Act) (w : World), segB P md ops T r l = some l' → Shut md ops l → wpList P ops (Exit.then K Q) (pick ops r) a w → wpAnyT P md ops Q (Cells L) T (r.length + n) l a w
  | [], l, a, w, hg, hs, h => by
    unfold segB at hg
    cases hg
    rw [List.length_nil, Nat.zero_add]
    exact hK hs a w h
  | i :: r, l, a, w, hg, hs, h => by
    unfold segB at hg
    split at hg
    · rename_i hc
      simp only [Bool.and_eq_true, Bool.or_eq_true, beq_iff_eq, Bool.not_eq_true'] at hc
      obtain ⟨⟨hr, hiT⟩, hk⟩ := hc
      have hr' := List.contains_iff_mem.1 hr
      rw [wpList_pick_cons] at h
      have hA : wpOp P ops Q i (fun a' w' => wpAnyT P md ops Q (Cells L) T (r.length + n) (l.setIfInBounds i true) a' w') a w := wpOp_mono (fun a w hh => seg_any hQ hP hsel hE hK r _ a w hg (hs.set hr') hh) (wpOp_then h hQ)
      rw [List.length_cons, show r.length + 1 + n = r.length + n + 1 by omega]
      rcases hk with (hk | hk) | hk
      · exact stepA hQ hP hsel hE hs hr' hiT hk hA
      · exact any_one hk (wpOp_mono (fun a w hh => ⟨fun e => (by rw [hiT] at e; cases e), hh⟩) hA)
      · obtain ⟨_, _, _, _, hh⟩ := stepC hQ hP hsel hE hs hr' hiT hk hA
        exact hh
    · cases hg
theorem un_set {l : Array Bool} {i j : Nat} (hr : i ∈ Region.ready md ops l) (h : (l.setIfInBounds i true).getD j true = false) : l.getD j true = false := by
  by_cases hij : i = j
  · subst hij; exact (mem_ready.1 hr).1
  · rw [getD_set_ne true hij] at h; exact h
theorem holdB_un : ∀ {r : List Nat} {l l' : Array Bool}, holdB P md ops T H r l = some l' → (∀ j ∈ r, l.getD j true = false) ∧ ∀ j, l'.getD j true = false → l.getD j true = false
  | [], l, l', h => by
    unfold holdB at h
    cases h
    exact ⟨fun _ hj => (by cases hj), fun _ h => h⟩
  | i :: r, l, l', h => by
    unfold holdB at h
    split at h
    · rename_i hc
      simp only [Bool.and_eq_true] at hc
      have hr := List.contains_iff_mem.1 hc.1.1
      obtain ⟨h1, h2⟩ := holdB_un h
      refine ⟨fun j hj => ?_, fun j hj => un_set hr (h2 j hj)⟩
      rcases List.mem_cons.1 hj with rfl | hj
      · exact (mem_ready.1 hr).1
      · exact un_set hr (h1 j hj)
    · cases h
theorem hold_any (hQ : Safe Q) (hP : prodB md ops = true) (hsel : Region.noSelect ops = true) (hE : Ends ops Q L H) {K : Act → World → Prop} {n : Nat} {l' : Array Bool}
    (hs' : Shut md ops l') (hK : ∀ a w, K a w → wpAnyT P md ops Q (Cells L) T n l' a w) :
    ∀ (r : List Nat) (l : Array Bool) (a : Act) (w : World), holdB P md ops T H r l = some l' → Shut md ops l → Cells L w → wpList P ops (Exit.then K Q) (pick ops r) a w → wpAnyT P md ops Q (Cells L) T (r.length + n) l a w
  | [], l, a, w, hg, hs, _, h => by
    unfold holdB at hg
    cases hg
    rw [List.length_nil, Nat.zero_add]
    exact hK a w h
  | i :: r, l, a, w, hg, hs, hS, h => by
    unfold holdB at hg
    split at hg
    · rename_i hc
      simp only [Bool.and_eq_true, Bool.or_eq_true, Bool.not_eq_true'] at hc
      obtain ⟨⟨hr, hiT⟩, hk⟩ := hc
      have hr' := List.contains_iff_mem.1 hr
      rw [wpList_pick_cons] at h
      have h2 := wpOp_then h hQ
      -- each only reads: the world stays
      have hdamp : ∃ o, ops[i]? = some o ∧ dampKind P o.op = true := by
        cases hi : ops[i]? with
        | none => rcases hk with (hk | hk) | hk <;> simp [okA, okC, okD, hi] at hk
        | some o =>
          refine ⟨o, rfl, ?_⟩
          rcases hk with (hk | hk) | hk
          · simp only [okA, hi, Bool.and_eq_true] at hk
            have := hk.1
            cases ho : o.op <;> rw [ho] at this <;> first | rfl | exact this | cases this
          · simp only [okC, hi, Bool.and_eq_true] at hk; exact hk.1.1
          · simp only [okD, hi, Bool.and_eq_true] at hk
            have := hk.1.1.1
            cases ho : o.op <;> rw [ho] at this <;> first | rfl | cases this
      obtain ⟨o, hi, hd⟩ := hdamp
      have toA : ∀ a w', Cells L w' → wpList P ops (Exit.then K Q) (pick ops r) a w' → wpAnyT P md ops Q (Cells L) T (r.length + n) (l.setIfInBounds i true) a w' := fun a w' hS' hh => hold_any hQ hP hsel hE hs' hK r _ a w' hg (hs.set hr') hS' hh
      -- that its operands fit is known at the end of the list's walk
      have hfit : Fits ops o a := by
        refine wpOp_get hQ (fun p hp a v => ?_) (fun a d => Fits.defers) h2 (fun a' w' hh => ?_)
        · rw [hi] at hp; cases hp
          exact Fits.put (prodB_spec hP hi hi (ready_not_waits hs (listed_false hr') hr' _))
        · obtain ⟨u1, u2⟩ := holdB_un hg
          have stab : ∀ j p, ops[j]? = some p → l.getD j true = false → ∀ a v, Fits ops o (a.put p.dst v) → Fits ops o a := fun j p hj hl a v => Fits.put (prodB_spec hP hi hj (ready_not_waits hs (getD_false hl) hr' _))
          rw [← wpOps_pick] at hh
          refine wpOps_get hQ.then r a' w' (fun j p hj hp => stab j p hp (un_set hr' (u1 j hj))) (fun a d => Fits.defers) hh (fun a w hK' => ?_)
          exact wpAny_get hQ (fun a d => Fits.defers) (hE.fits i o hi) n l' a w (fun j p hj hl => stab j p hj (un_set hr' (u2 j hl))) (hK a w hK')
      have hA : wpOp P ops Q i (fun a' w' => wpAnyT P md ops Q (Cells L) T (r.length + n) (l.setIfInBounds i true) a' w') a w := wpOp_mono (fun a w' hh => toA a w' (by rw [hh.1]; exact hS) hh.2) (wpOp_damp_world hQ hi hd hfit h2)
      rw [List.length_cons, show r.length + 1 + n = r.length + n + 1 by omega]
      rcases hk with (hk | hk) | hk
      · exact stepA hQ hP hsel hE hs hr' hiT hk hA
      · obtain ⟨_, _, _, _, hh⟩ := stepC hQ hP hsel hE hs hr' hiT hk hA
        exact hh
      · exact stepD hQ hP hsel hE hs hr' hiT hk hS hA
    · cases hg
theorem segB_shut : ∀ {r : List Nat} {l l' : Array Bool}, segB P md ops T r l = some l' → Shut md ops l → Shut md ops l'
  | [], l, l', h, hs => by unfold segB at h; cases h; exact hs
  | i :: r, l, l', h, hs => by
    unfold segB at h
    split at h
    · rename_i hc
      simp only [Bool.and_eq_true] at hc
      exact segB_shut h (hs.set (List.contains_iff_mem.1 hc.1.1))
    · cases h
theorem holdB_shut : ∀ {r : List Nat} {l l' : Array Bool}, holdB P md ops T H r l = some l' → Shut md ops l → Shut md ops l'
  | [], l, l', h, hs => by unfold holdB at h; cases h; exact hs
  | i :: r, l, l', h, hs => by
    unfold holdB at h
    split at h
    · rename_i hc
      simp only [Bool.and_eq_true] at hc
      exact holdB_shut h (hs.set (List.contains_iff_mem.1 hc.1.1))
    · cases h
theorem plan_any (hQ : Safe Q) (hP : prodB md ops = true) (hsel : Region.noSelect ops = true) (hE : Ends ops Q L H) :
    ∀ (p : Plan) (l : Array Bool) (a : Act) (w : World), planB P md ops T H p l = true → p.even = true → Shut md ops l → wpPlan P ops Q (Cells L) p a w → wpAnyT P md ops Q (Cells L) T p.size l a w
  | .stop, l, a, w, hg, _, _, h => by
    unfold planB at hg
    exact ⟨List.isEmpty_iff.1 hg, h⟩
  | .seg r p, l, a, w, hg, he, hs, h => by
    unfold planB at hg
    cases hl : segB P md ops T r l with
    | none => rw [hl] at hg; cases hg
    | some l' =>
      rw [hl] at hg
      exact seg_any hQ hP hsel hE (fun hs' a w hh => plan_any hQ hP hsel hE p l' a w hg he hs' hh) r l a w hl hs h
  | .hold r p, l, a, w, hg, he, hs, h => by
    unfold planB at hg
    cases hl : holdB P md ops T H r l with
    | none => rw [hl] at hg; cases hg
    | some l' =>
      rw [hl] at hg
      exact hold_any hQ hP hsel hE (holdB_shut hl hs) (fun a w hh => plan_any hQ hP hsel hE p l' a w hg he (holdB_shut hl hs) hh) r l a w hl hs h.1 h.2
  | .loud i p, l, a, w, hg, he, hs, h => by
    unfold planB at hg
    rw [Bool.and_eq_true, beq_iff_eq] at hg
    unfold wpPlan at h
    rw [wpList_pick_cons] at h
    have hr : i ∈ Region.ready md ops l := by rw [hg.1]; exact List.mem_singleton.2 rfl
    exact any_one hg.1 (wpOp_mono (fun a w hh => ⟨fun _ => hh.1, plan_any hQ hP hsel hE p _ a w hg.2 he (hs.set hr) hh.2⟩) (wpOp_then h hQ))
  | .fork i p j q, l, a, w, hg, he, hs, h => by
    unfold planB at hg
    rw [Bool.and_eq_true, Bool.and_eq_true, beq_iff_eq] at hg
    obtain ⟨⟨hr, hp⟩, hq⟩ := hg
    unfold wpPlan at h
    rw [wpList_pick_cons, wpList_pick_cons] at h
    unfold Plan.even at he
    rw [Bool.and_eq_true, Bool.and_eq_true, beq_iff_eq] at he
    obtain ⟨⟨e1, e2⟩, e3⟩ := he
    have hi : i ∈ Region.ready md ops l := by rw [hr]; simp
    have hj : j ∈ Region.ready md ops l := by rw [hr]; simp
    refine ⟨fun h0 => (by rw [hr] at h0; cases h0), fun k hk => ?_⟩
    rw [hr] at hk
    rcases List.mem_cons.1 hk with rfl | hk
    · exact wpOp_mono (fun a w hh => ⟨fun _ => hh.1, plan_any hQ hP hsel hE p _ a w hp e1 (hs.set hi) hh.2⟩) (wpOp_then h.1 hQ)
    · rw [List.mem_singleton] at hk
      subst hk
      refine wpOp_mono (fun a w hh => ⟨fun _ => hh.1, ?_⟩) (wpOp_then h.2 hQ)
      have := plan_any hQ hP hsel hE q _ a w hq e2 (hs.set hj) hh.2
      rw [← e3] at this
      exact this
end
/-- All operands fit, told at the end. -/
def fineB (ops : Array Oper) (a : Act) : Bool := ops.toList.all fun o => !Region.wanted o (yielded ops a.tmps) || okVals a.eval o.op
theorem fineB_spec {a : Act} (h : fineB ops a = true) (k : Nat) (o : Oper) (hk : ops[k]? = some o) : Fits ops o a := fun hw => by
  have h1 := List.all_eq_true.1 h o (by rw [Array.mem_toList_iff]; exact Array.mem_of_getElem? hk)
  rw [hw] at h1
  simpa using h1
/-- What is asked at a region's end besides. -/
def Fine (ops : Array Oper) (L : List (Addr × Value)) (H : List (Nat × Nat)) (Q : Exit → Act → World → Prop) : Exit → Act → World → Prop
  | .normal, a, w => fineB ops a = true ∧ HeldAll ops L a H ∧ Q .normal a w
  | e, a, w => Q e a w
theorem Fine.to {L : List (Addr × Value)} {H : List (Nat × Nat)} {e : Exit} {a : Act} {w : World} (h : Fine ops L H Q e a w) : Q e a w := by
  cases e <;> first | exact h.2.2 | exact h
theorem wpAny_monoQ {Q Q' : Exit → Act → World → Prop} (hQ : Safe Q) (hq : ∀ a w, Q .normal a w → Q' .normal a w) : ∀ (n : Nat) (li : Array Bool) (a : Act) (w : World), wpAny P md ops Q n li a w → wpAny P md ops Q' n li a w
  | 0, li, a, w, hh => ⟨hh.1, hq _ _ hh.2⟩
  | n + 1, li, a, w, hh => by
    refine ⟨fun h0 => hq _ _ (hh.1 h0), fun i hi => ?_⟩
    have h3 := wpOp_mono (fun a w => wpAny_monoQ hQ hq n _ a w) (hh.2 i hi)
    unfold wpOp at *
    split at h3
    · exact h3
    · split at h3
      · rename_i hw
        rw [if_pos hw]
        rcases h3 with h3 | ⟨_, x, y, h3⟩
        · refine .inl ?_
          unfold Oper.wp at *
          generalize Sem.run P _ w = res at *
          cases res with
          | ok nx w' =>
            cases nx <;> simp only [Oper.upon] at h3 ⊢ <;> first
              | exact h3
              | exact Calls.mono h3 (fun e w'' he => by cases e <;> first | exact he | exact (hQ.1 _ _ _ he).elim | (obtain ⟨x, y, he⟩ := he; exact (hQ.2 _ _ he).elim))
          | halt z w' => cases z <;> simp only [Oper.upon] at h3 ⊢ <;> first | exact h3 | exact (hQ.1 _ _ _ h3).elim
        · exact (hQ.2 _ _ h3).elim
      · rename_i hw
        rw [if_neg hw]; exact h3
def fullB (P : Program) (ops : Array Oper) (T : List Nat) (H : List (Nat × Nat)) (p : Plan) : Bool := (p.size == ops.size) && p.even && Region.noSelect ops && prodB .any ops && planB P .any ops T H p (Array.replicate ops.size false)
end
/-- A region whose order is drawn, walked by a plan. -/
theorem region {Q : Exit → Act → World → Prop} {id : Nat} {l : List Oper} {a : Act} {w : World} (T : List Nat) (L : List (Addr × Value)) (H : List (Nat × Nat)) (p : Plan) (hm : P.follows .mixedOrders = true) (hB : fullB P l.toArray T H p = true) (hQ : Safe Q)
    (h : wpPlan P l.toArray (Fine l.toArray L H Q) (Cells L) p a w.drew) : (Code.region id l.toArray true).wp P Q a w := by
  unfold fullB at hB
  simp only [Bool.and_eq_true, beq_iff_eq] at hB
  obtain ⟨⟨⟨⟨hn, he⟩, hsel⟩, hP⟩, hg⟩ := hB
  have hQ2 : Safe (Fine l.toArray L H Q) := ⟨fun c a w hh => hQ.1 _ _ _ hh, fun a w hh => hQ.2 _ _ hh⟩
  have hE : Ends l.toArray (Fine l.toArray L H Q) L H := ⟨fun k o hk a w hh => fineB_spec hh.1 k o hk, fun q hq o ho a w hh => HeldAll.get hh.2.1 q hq o ho⟩
  have h1 := plan_any hQ2 hP hsel hE p _ a w.drew hg he (Shut.start _) h
  rw [hn] at h1
  exact wp_region_any hm (wpAny_monoQ hQ2 (fun a w hh => hh.2.2) _ _ _ _ (wpAnyT_any _ _ _ _ h1))
/-- In one row, nothing held. -/
theorem row {Q : Exit → Act → World → Prop} {id : Nat} {l : List Oper} {a : Act} {w : World} (r : List Nat) (hm : P.follows .mixedOrders = true) (hB : fullB P l.toArray [] [] (.seg r .stop) = true) (hQ : Safe Q)
    (h : wpList P l.toArray (Fine l.toArray [] [] Q) (pick l.toArray r) a w.drew) : (Code.region id l.toArray true).wp P Q a w := by
  refine region [] [] [] (.seg r .stop) hm hB hQ ?_
  have e : (Exit.then (wpPlan P l.toArray (Fine l.toArray [] [] Q) (Cells []) .stop) (Fine l.toArray [] [] Q)) = Fine l.toArray [] [] Q := by
    funext e a w
    cases e <;> rfl
  show wpList P l.toArray (Exit.then (wpPlan P l.toArray (Fine l.toArray [] [] Q) (Cells []) .stop) (Fine l.toArray [] [] Q)) (pick l.toArray r) a w.drew
  rw [e]
  exact h
end Go.Canon
end

section
namespace Go.Proofs.Ytbiohidelhfaiaa
open Go.RowKit Go.Canon Go.Mem
set_option linter.unusedVariables false
set_option linter.unusedSimpArgs false
/-- The value, the world as it was. -/
def Only (v : Value) (w : World) : Value → World → Prop := fun v' w' => v' = v ∧ w = w'
/-- The value; nothing that was there has turned. -/
def Still (v : Value) (w : World) : Value → World → Prop := fun v' w' => v' = v ∧ Keeps (fun _ => False) w w'
def least (n lo hi : Int) : Int := if n < lo then lo else if hi < n then hi else n
theorem least_c (n lo hi : Int) (w : World) : Calls Try.prog 22 #[.int .i64 n, .int .i64 lo, .int .i64 hi] w (Rets (Only (.int .i64 (least n lo hi)) w)) := by
  by_cases h1 : n < lo
  · have HE := Lib.hid (show least n lo hi = lo by simp [least, h1])
    go_enter Try.func22, Try.ntmps22
    go_wp2
    go_ret
    exact ⟨by rw [HE.out]; rfl, rfl⟩
  · by_cases h2 : hi < n
    · have HE := Lib.hid (show least n lo hi = hi by simp [least, h1, h2])
      go_enter Try.func22, Try.ntmps22
      go_wp2
      go_ret
      exact ⟨by rw [HE.out]; rfl, rfl⟩
    · have HE := Lib.hid (show least n lo hi = n by simp [least, h1, h2])
      go_enter Try.func22, Try.ntmps22
      go_wp2
      go_ret
      exact ⟨by rw [HE.out]; rfl, rfl⟩
/-- What a slice begins with is read as the list begins. -/
theorem Rd.front {w : World} {ok : Nat → Prop} {A : Option Addr} {n c : Nat} {cs : List Value} (h : Rd w ok (.slice A n c) n cs) (m sz : Nat) (hm : m ≤ n) (hl : cs.length = n * sz) : Rd w ok (.slice A m c) m (cs.take (m * sz)) := by
  obtain ⟨A', c', e, h2, h3, h4⟩ := h
  cases e
  refine ⟨A, c, rfl, by omega, fun e => ⟨by have := (h3 e).1; omega, (h3 e).2⟩, ?_⟩
  rcases h4 with h4 | ⟨b, o, e1, e2, e3⟩
  · exact .inl (by rw [h4, List.take_nil])
  · refine .inr ⟨b, o, e1, e2, fun j u hu => e3 j u ?_⟩
    rw [List.getElem?_take] at hu
    split at hu
    · exact hu
    · cases hu
/-- The value is one that is read so; the world as it was. -/
def Reads (ok : Nat → Prop) (n : Nat) (cs : List Value) (w : World) : Value → World → Prop := fun v' w' => Rd w ok v' n cs ∧ w = w'
theorem cut_c {ok : Nat → Prop} {w : World} (v : Value) (xs : List Int) (hr : Rd w ok v xs.length (Disk.bytes8 xs)) (n : Nat) : Calls Try.prog 10 #[v, .int .i64 n] w (Rets (Reads ok (xs.take n).length (Disk.bytes8 (xs.take n)) w)) := by
  obtain ⟨A, c, rfl, hc, _⟩ := hr.slice
  by_cases h : n < xs.length
  · have HR := Lib.hid (show Rd w ok (.slice A n c) (xs.take n).length (Disk.bytes8 (xs.take n)) by
      have h1 := Rd.front hr n 1 (by omega) (by rw [Disk.bytes8_len, Nat.mul_one])
      rw [List.length_take, Nat.min_eq_left (by omega)]
      rw [Nat.mul_one] at h1
      unfold Disk.bytes8 at *
      rw [List.map_take]; exact h1)
    clear hr
    go_enter Try.func10, Try.ntmps10
    go_wp2
    go_ret
    exact ⟨HR.out, rfl⟩
  · have HR := Lib.hid (show Rd w ok (.slice A xs.length c) (xs.take n).length (Disk.bytes8 (xs.take n)) by rw [List.take_of_length_le (by omega)]; exact hr)
    clear hr
    go_enter Try.func10, Try.ntmps10
    go_wp2
    go_ret
    exact ⟨HR.out, rfl⟩
theorem row_byte : (Try.prog.info? 5).map (fun i => (i.zero, i.size, i.bytes)) = some (some (.int .u8 0), 1, 1) := by kernel_rfl
theorem row2_byte : (Try.prog.info? 5).map (fun i => (i.zero, i.size)) = some (some (.int .u8 0), 1) := by kernel_rfl
/-- A new row. -/
def NewRow (e : TypeId) (sz n : Nat) (cs : List Value) (w : World) : Value → World → Prop := fun v' w' => OwnRow w' (fun k => w.heap.size ≤ k) e sz v' n cs ∧ Keeps (fun _ => False) w w'
theorem copy_c {ok : Nat → Prop} {w : World} (v : Value) (xs : List Int) (hr : Rd w ok v xs.length (Disk.bytes8 xs)) (hl : xs.length ≤ 140737488355328) : Calls Try.prog 11 #[v] w (Rets (NewRow 5 1 xs.length (Disk.bytes8 xs) w)) := by
  obtain ⟨A, c, hv, hc, _⟩ := hr.slice
  subst hv
  go_enter Try.func11, Try.ntmps11
  go_wp2_with ((with_reducible refine at_ 6 rfl ?_); go_must (refine step_append_rd (ok := fun _ => False) rfl _ _ _ rfl 5 _ 1 1 Try.underlying23 row_byte rfl (by decide) (.slice none 0 0) 0 [] rfl (OwnRow.nil _ _ _ _) _ xs.length (Disk.bytes8 xs) rfl hr (by rw [Disk.bytes8_len, Nat.mul_one]) (Disk.bytes8_one xs) (by simp only [maxLen]; omega) (by omega) ?_); intro v' w' ho hk)
  go_ret
  refine ⟨?_, hk.mono (fun k _ e => by simp [Value.ownBlock] at e)⟩
  rw [Nat.zero_add, List.nil_append] at ho
  exact ho.mono (fun k _ e => e.resolve_left (fun h => h))
set_option maxHeartbeats 400000 in
theorem same_c {ok ok2 : Nat → Prop} {w : World} (v v2 : Value) (xs ys : List Int) (hr : Rd w ok v xs.length (Disk.bytes8 xs)) (hr2 : Rd w ok2 v2 ys.length (Disk.bytes8 ys)) (hl : xs.length ≤ 9223372036854775807) :
    Calls Try.prog 16 #[v, v2] w (Rets (Still (.bool (decide (xs = ys))) w)) := by
  obtain ⟨A, c, rfl, hc, _⟩ := hr.slice
  obtain ⟨B, d, rfl, hd, _⟩ := hr2.slice
  by_cases hn : xs.length = ys.length
  · have hb : ((xs.length : Int) != ys.length) = false := by rw [hn]; simp
    have HN := Lib.hid hn
    have HR := Lib.hid hr
    have HR2 := Lib.hid hr2
    clear hn hr hr2
    go_enter Try.func16, Try.ntmps16
    go_wp2
    go_loopw [5] (fun i wr => ∃ k : Nat, k ≤ xs.length ∧ i = .int .i64 k ∧ Hid (xs.take k = ys.take k) ∧ Keeps (fun _ => False) w wr) (fun i _ => xs.length - (intOf i).toNat)
    case atStart => exact ⟨0, Nat.zero_le _, rfl, rfl, Keeps.refl _ w⟩
    case round =>
      obtain ⟨k, hk, rfl, HT, hK⟩ := hrel
      by_cases hlt : k < xs.length
      · have hlt2 : k < ys.length := by have := HN.out; omega
        obtain ⟨b1, o1, c1, e1, _, _, f1⟩ := (HR.out.kept hK (fun _ _ h => h)).at (by intro e; have := congrArg List.length e; rw [Disk.bytes8_len, List.length_nil] at this; omega)
        obtain ⟨b2, o2, c2, e2, _, _, f2⟩ := (HR2.out.kept hK (fun _ _ h => h)).at (by intro e; have := congrArg List.length e; rw [Disk.bytes8_len, List.length_nil] at this; omega)
        cases e1
        cases e2
        have g1 : wr.cell? ⟨b1, o1 + k, none⟩ = some (.int .u8 xs[k]) := f1 k _ (by simp [Disk.bytes8, hlt])
        have g2 : wr.cell? ⟨b2, o2 + k, none⟩ = some (.int .u8 ys[k]) := f2 k _ (by simp [Disk.bytes8, hlt2])
        have HT1 := Lib.hid (show xs.take (k + 1) = xs.take k ++ [xs[k]] by rw [List.take_add_one, List.getElem?_eq_getElem hlt]; rfl)
        have HT2 := Lib.hid (show ys.take (k + 1) = ys.take k ++ [ys[k]] by rw [List.take_add_one, List.getElem?_eq_getElem hlt2]; rfl)
        have HX := Lib.hid (show xs = ys → xs[k] = ys[k] by intro e; subst e; rfl)
        generalize xs[k] = x at *
        generalize ys[k] = y at *
        clear f1 f2
        by_cases he : x = y
        · have hb2 : (x != y) = false := by rw [he]; simp
          have HE := Lib.hid he
          clear he
          go_wp2
          refine Canon.row [0, 1, 2, 4, 5, 6, 3, 7, 8] (by kernel_rfl) (by kernel_rfl) (by repeat (first | (with_reducible exact Safe.body) | (with_reducible apply Safe.then) | (with_reducible apply Safe.inBlock) | (dsimp +zetaDelta only))) ?_
          simp only [Canon.pick, Canon.wpPlan, List.getElem?_toArray, List.getElem?_cons_zero, List.getElem?_cons_succ]
          go_wp2
          refine ⟨by rfl, trivial, ?_⟩
          go_wp2
          go_roundw
          case rel => exact ⟨k + 1, by omega, by go_num, by show _ = _; rw [HT1.out, HT2.out, HT.out, HE.out], hK.drew⟩
          case measure => simp [intOf]; omega
        · have hb2 : (x != y) = true := by simpa using he
          have HE := Lib.hid (show decide (xs = ys) = false by rw [decide_eq_false_iff_not]; intro e; exact he (HX.out e))
          clear he
          go_wp2
          refine Canon.row [0, 1, 2, 4, 5, 6, 3, 7, 8] (by kernel_rfl) (by kernel_rfl) (by repeat (first | (with_reducible exact Safe.body) | (with_reducible apply Safe.then) | (with_reducible apply Safe.inBlock) | (dsimp +zetaDelta only))) ?_
          simp only [Canon.pick, Canon.wpPlan, List.getElem?_toArray, List.getElem?_cons_zero, List.getElem?_cons_succ]
          go_wp2
          refine ⟨by rfl, trivial, ?_⟩
          go_wp2
          go_ret
          exact ⟨by rw [HE.out]; rfl, hK.drew⟩
      · have HE := Lib.hid (show decide (xs = ys) = true by
          rw [decide_eq_true_eq]
          have h1 := HT.out
          have h2 := HN.out
          rw [List.take_of_length_le (by omega), List.take_of_length_le (by omega)] at h1
          exact h1)
        go_wp2
        go_ret
        exact ⟨by rw [HE.out]; rfl, hK⟩
  · have hb : ((xs.length : Int) != ys.length) = true := by simp; omega
    have HE := Lib.hid (show decide (xs = ys) = false by rw [decide_eq_false_iff_not]; intro e; exact hn (by rw [e]))
    clear hn hr hr2
    go_enter Try.func16, Try.ntmps16
    go_wp2
    go_ret
    exact ⟨by rw [HE.out]; rfl, Keeps.refl _ w⟩
end Go.Proofs.Ytbiohidelhfaiaa
end

section
namespace Go.Mem
open Go.Lib
set_option linter.unusedVariables false
set_option linter.unusedSimpArgs false
section
variable {P : Program} {w : World}
theorem run_str_own {ok : Nat → Prop} (t u ty e : TypeId) (i : TypeInfo) (ht : P.underlying t = some (.slice e)) (hu : P.underlying u = some .string) (hi : P.info? e = some i) (hz : i.zero = some (.int .u8 0)) (hsize : i.size = 1) (hby : i.bytes = 1)
    (v : Value) (n : Nat) (xs : List Value) (hown : OwnRow w ok e 1 v n xs) (s : ByteArray) (h63 : n + s.size ≤ maxLen) (hbytes : n + s.size ≤ 140737488355328) :
    ∃ v' w', (Builtin.append_ #[t, u] ty #[v, .string s]).run P w = .ok v' w' ∧ OwnRow w' (fun k => ok k ∨ w.heap.size ≤ k) e 1 v' (n + s.size) (xs ++ strCells s) ∧ Keeps (fun k => v.ownBlock = some k) w w' := by
  obtain ⟨v', w', hr, h2, h3, h4⟩ := run_append_own_string (P := P) w 0 t u ty e i ht hu hi hz hsize hby v n xs hown.1 s h63 hbytes (Nat.zero_le _)
  refine ⟨v', w', hr, ⟨h2, fun k hk => ?_⟩, ⟨h3.os, h3.tape, h3.output, h3.size, fun k hk hn => h3.block k hk (fun e => hn e.symm)⟩⟩
  rcases hown.1.2 with ⟨rfl, rfl⟩ | ⟨g, cap, cur, rfl, _, hg, hnc, hcm, hcs, htake⟩
  · obtain ⟨v2, w2, hr2, h22, _⟩ := run_append_own_string (P := P) w w.heap.size t u ty e i ht hu hi hz hsize hby (.slice none 0 0) 0 xs ⟨hown.1.1, .inl ⟨rfl, rfl⟩⟩ s h63 hbytes (Nat.le_refl _)
    rw [hr] at hr2
    simp only [Result.ok.injEq] at hr2
    obtain ⟨rfl, rfl⟩ := hr2
    exact .inr (h22.lt k hk).1
  · rw [Nat.mul_one] at hcs
    by_cases hroom : n + s.size ≤ cap
    · have hr2 := run_append_room_string (P := P) w t u ty e i ht hu hi hsize g n cap cur hg s hroom (by omega)
      rw [hr] at hr2
      simp only [Result.ok.injEq] at hr2
      obtain ⟨rfl, _⟩ := hr2
      exact .inl (hown.2 k hk)
    · have holds : ∀ j u, xs[j]? = some u → w.cell? ((⟨g, 0, none⟩ : Addr).add j) = some u := hown.1.cells (g := g) rfl
      have hr2 := run_append_grow_string (P := P) w t u ty e i _ ht hu hi hz ⟨g, 0, none⟩ n cap xs (by rw [hsize]; exact hown.1.1) holds s (by omega) (by simp only [maxLen] at h63; omega) (growslice_fits (by omega) (by rw [hby, Nat.mul_one]; exact hbytes))
      rw [hr] at hr2
      simp only [Result.ok.injEq] at hr2
      obtain ⟨rfl, _⟩ := hr2
      simp only [Value.ownBlock, Option.some.injEq] at hk
      exact .inr (by rw [← hk]; exact Nat.le_refl _)
end
section
variable {P : Program} {ops : Array Oper} {op : Oper} {rest : List Oper} {a : Act} {w : World} {Q : Exit → Act → World → Prop}
/-- append of a string's bytes to a row of one's own. -/
theorem step_append_str {ok : Nat → Prop} (hgd : Region.wanted op (yielded ops a.tmps) = true) (s x : Operand) (t u : TypeId) (ho : op.op = .call { callee := .builtin .append, args := #[s, x], argTypes := #[t, u] })
    (e : TypeId) (ht : P.underlying t = some (.slice e)) (hu : P.underlying u = some .string) (hi : (P.info? e).map (fun i => (i.zero, i.size, i.bytes)) = some (some (.int .u8 0), 1, 1))
    (v : Value) (n : Nat) (xs : List Value) (hs : a.eval s = v) (hown : OwnRow w ok e 1 v n xs) (b : ByteArray) (hx : a.eval x = .string b) (h63 : n + b.size ≤ maxLen) (hbytes : n + b.size ≤ 140737488355328)
    (h : ∀ v' w', OwnRow w' (fun k => ok k ∨ w.heap.size ≤ k) e 1 v' (n + b.size) (xs ++ strCells b) → Keeps (fun k => v.ownBlock = some k) w w' → wpList P ops Q rest (a.put op.dst v') w') : wpList P ops Q (op :: rest) a w := by
  cases hq : P.info? e with
  | none => simp [hq] at hi
  | some i =>
    obtain ⟨e1, e2, e3⟩ : i.zero = some (.int .u8 0) ∧ i.size = 1 ∧ i.bytes = 1 := by simpa [hq] using hi
    obtain ⟨v', w', hr, h2, h3⟩ := run_str_own t u op.type e i ht hu hq e1 e2 e3 v n xs hown b h63 hbytes
    refine plain_ hgd fun K hK => ?_
    unfold Oper.wp execOp
    simp only [ho, resolve, invoke, builtin, Sem.run_bind, Sem.run_pure, Result.andThen_ok, List.map_toArray, List.map_cons, List.map_nil, hs, hx, hr]
    exact hK _ _ (h v' w' h2 h3)
/-- Zeros, as a string. -/
def zeroStr (n : Nat) : ByteArray := ⟨Array.replicate n 0⟩
theorem zeroStr_size (n : Nat) : (zeroStr n).size = n := by simp [zeroStr, ByteArray.size]
theorem zeroStr_cells (n : Nat) : strCells (zeroStr n) = List.replicate n (.int .u8 0) := by simp [zeroStr, strCells]
theorem zeroCells_byte (n : Nat) : Builtin.zeroCells (Value.int .u8 0).cells n = Array.replicate n (.int .u8 0) := by
  apply Array.ext
  · simp [Builtin.zeroCells, Value.cells]
  · intro j h1 h2
    simp [Builtin.zeroCells, Value.cells, Nat.mod_one]
theorem run_zeros (t tn u ty e : TypeId) (kn : IntKind) (i : TypeInfo) (ht : P.underlying t = some (.slice e)) (htn : P.underlying tn = some (.int kn)) (hu : P.underlying u = some .string) (hi : P.info? e = some i) (hz : i.zero = some (.int .u8 0)) (hsize : i.size = 1) (hby : i.bytes = 1)
    (A : Option Addr) (c m n : Nat) (hm : 0 < m) (hn : n + m ≤ 1000000) :
    (Builtin.append_ #[t, tn] ty #[.slice A n c, .int .i64 m]).run P w = (Builtin.append_ #[t, u] ty #[.slice A n c, .string (zeroStr m)]).run P w := by
  have hw : IntKind.i64.wrap (m : Int) = m := by rw [IntKind.wrap_i64]; omega
  have hneg : ¬ ((m : Int) < 0) := by omega
  have h48i : ¬ (281474976710656 < (m : Int)) := by omega
  have h63' : ¬ (9223372036854775807 < ((n : Int) + (m : Int))) := by omega
  have hm0 : ¬ m = 0 := by omega
  have hf : ∀ w, (Builtin.firstCells 1 m (.string (zeroStr m))).run P w = .ok (Array.replicate m (.int .u8 0)) w := by
    intro w
    have := run_firstCells_string (P := P) w 1 (zeroStr m)
    rw [zeroStr_size, zeroStr_cells] at this
    simpa using this
  by_cases hroom : n + m ≤ c
  · simp [Builtin.append_, run_underlying ht, run_underlying htn, run_underlying hu, sizeOf, typeInfo, zeroValue, hi, hz, hsize, hby, Builtin.lenOf, asInt, asIntOf, hw, hneg, h48i, hm0, hroom, hf, zeroStr_size, zeroCells_byte]
  · have hfit : ¬ (281474976710656 < Builtin.nextslicecap (n + m) c * i.bytes) := by
      have := growslice_fits (need := n + m) (old := c) (bytes := i.bytes) (by omega) (by rw [hby]; omega); omega
    rw [hby, Nat.mul_one] at hfit
    simp [Builtin.append_, run_underlying ht, run_underlying htn, run_underlying hu, sizeOf, typeInfo, zeroValue, hi, hz, hsize, hby, Builtin.lenOf, asInt, asIntOf, hw, hneg, h48i, hm0, hroom, hf, zeroStr_size, zeroCells_byte, h63', hfit]
/-- append of zeros to bytes of one's own. -/
theorem step_append_zeros {ok : Nat → Prop} (hgd : Region.wanted op (yielded ops a.tmps) = true) (s x : Operand) (t tn u : TypeId) (ho : op.op = .call { callee := .builtin .append, args := #[s, x], argTypes := #[t, tn] })
    (e : TypeId) (kn : IntKind) (ht : P.underlying t = some (.slice e)) (htn : P.underlying tn = some (.int kn)) (hu : P.underlying u = some .string) (hi : (P.info? e).map (fun i => (i.zero, i.size, i.bytes)) = some (some (.int .u8 0), 1, 1))
    (v : Value) (n : Nat) (xs : List Value) (hs : a.eval s = v) (hown : OwnRow w ok e 1 v n xs) (m : Nat) (hx : a.eval x = .int .i64 (m : Int)) (hm : 0 < m) (hn : n + m ≤ 1000000)
    (h : ∀ v' w', OwnRow w' (fun k => ok k ∨ w.heap.size ≤ k) e 1 v' (n + m) (xs ++ List.replicate m (.int .u8 0)) → Keeps (fun k => v.ownBlock = some k) w w' → wpList P ops Q rest (a.put op.dst v') w') : wpList P ops Q (op :: rest) a w := by
  cases hq : P.info? e with
  | none => simp [hq] at hi
  | some i =>
    obtain ⟨e1, e2, e3⟩ : i.zero = some (.int .u8 0) ∧ i.size = 1 ∧ i.bytes = 1 := by simpa [hq] using hi
    obtain ⟨A, c, rfl, _⟩ := hown.slice
    obtain ⟨v', w', hr, h2, h3⟩ := run_str_own t u op.type e i ht hu hq e1 e2 e3 _ n xs hown (zeroStr m) (by rw [zeroStr_size]; simp only [maxLen]; omega) (by rw [zeroStr_size]; omega)
    rw [← run_zeros (P := P) (w := w) t tn u op.type e kn i ht htn hu hq e1 e2 e3 A c m n hm hn] at hr
    rw [zeroStr_size, zeroStr_cells] at h2
    refine plain_ hgd fun K hK => ?_
    unfold Oper.wp execOp
    simp only [ho, resolve, invoke, builtin, Sem.run_bind, Sem.run_pure, Result.andThen_ok, List.map_toArray, List.map_cons, List.map_nil, hs, hx, hr]
    exact hK _ _ (h v' w' h2 h3)
end
/-! ### blocks by colour: one map in place of many sets apart -/
/-- The block has this colour, and is no older than W, and there in w. -/
def At (W w : World) (col : Nat → Nat) (c : Nat) (k : Nat) : Prop := col k = c ∧ W.heap.size ≤ k ∧ k < w.heap.size
/-- What is new has a colour of its own. -/
def recol (col : Nat → Nat) (n c : Nat) (k : Nat) : Nat := if k < n then col k else c
theorem At.old {W w w' : World} {col : Nat → Nat} {c d k : Nat} (h : At W w col c k) (hs : w.heap.size ≤ w'.heap.size) : At W w' (recol col w.heap.size d) c k := ⟨by unfold recol; rw [if_pos h.2.2]; exact h.1, h.2.1, Nat.lt_of_lt_of_le h.2.2 hs⟩
theorem At.new {W w w' : World} {col : Nat → Nat} {d k : Nat} (hW : W.heap.size ≤ w.heap.size) (h1 : w.heap.size ≤ k) (h2 : k < w'.heap.size) : At W w' (recol col w.heap.size d) d k := ⟨by unfold recol; rw [if_neg (Nat.not_lt.2 h1)], Nat.le_trans hW h1, h2⟩
theorem At.ne {W w : World} {col : Nat → Nat} {c d k : Nat} (h : At W w col c k) (hcd : c ≠ d) : ¬ At W w col d k := fun h' => hcd (h.1.symm.trans h'.1)
theorem At.wide {W w w' : World} {col : Nat → Nat} {c k : Nat} (h : At W w col c k) (hs : w.heap.size ≤ w'.heap.size) : At W w' col c k := ⟨h.1, h.2.1, Nat.lt_of_lt_of_le h.2.2 hs⟩
end Go.Mem
end

section
namespace Go.Mem
open Go.Lib
set_option linter.unusedVariables false
set_option linter.unusedSimpArgs false
section
variable {P : Program} {ops : Array Oper} {op : Oper} {rest : List Oper} {a : Act} {w : World} {Q : Exit → Act → World → Prop}
/-- []byte(s): a new block. -/
theorem step_str_bytes (hgd : Region.wanted op (yielded ops a.tmps) = true) (src dst : TypeId) (x : Operand) (ho : op.op = .convert src dst x) (e : TypeId) (hs : P.underlying src = some .string) (hd : P.underlying dst = some (.slice e)) (he : P.underlying e = some (.int .u8)) (s : ByteArray) (hx : a.eval x = .string s)
    (h : ∀ A c w', Rd w' (fun k => w.heap.size ≤ k) (.slice A s.size c) s.size (strCells s) → Keeps (fun _ => False) w w' → wpList P ops Q rest (a.put op.dst (.slice A s.size c)) w') : wpList P ops Q (op :: rest) a w := by
  refine plain_ hgd fun K hK => ?_
  unfold Oper.wp execOp
  simp only [ho, hx, Sem.run_bind, run_bytes_of_string w src dst e s hs hd he, Result.andThen_ok, Sem.run_pure]
  refine hK _ _ (h _ _ _ ⟨_, _, rfl, ?_, fun h => (by cases h), .inr ⟨_, _, rfl, Nat.le_refl _, fun j u hu => ?_⟩⟩ (((Keeps.refl _ w).drew).alloc _))
  · exact grownCap_ge _ _ _ _
  · have hl : j < (strCells s).length := (List.getElem?_eq_some_iff.1 hu).1
    have hj : j < s.data.size := by simpa [strCells] using hl
    rw [Nat.zero_add]
    have h1 := World.cell?_alloc_mark w.drew (bytesRow s (grownCap w s.size 0 e)) e ((bytesRow s (grownCap w s.size 0 e)).size, (bytesRow s (grownCap w s.size 0 e)).size + 1) j
    rw [bytesRow_at _ _ _ hj] at h1
    refine h1.trans ?_
    rw [← hu]
    simp [strCells, hj, Array.getElem?_eq_getElem hj]
/-- []byte of bytes just laid: the block bears a mark behind its end. -/
theorem step_bytes_bytes (hgd : Region.wanted op (yielded ops a.tmps) = true) (t : TypeId) (x : Operand) (ho : op.op = .convert t t x) (e : TypeId) (hu : P.underlying t = some (.slice e)) (he : P.underlying e = some (.int .u8)) (b n c : Nat) (hx : a.eval x = .slice (some ⟨b, 0, none⟩) n c) (C : Array Value) (ty : TypeId) (hb : w.heap[b]? = some (.cells C ty (0, 0)))
    (h : ∀ w', w'.heap[b]? = some (.cells C ty (C.size, C.size + 1)) → Keeps (· = b) w w' → w'.heap.size = w.heap.size → wpList P ops Q rest (a.put op.dst (.slice (some ⟨b, 0, none⟩) n c)) w') : wpList P ops Q (op :: rest) a w := by
  refine plain_ hgd fun K hK => ?_
  have hsh : w.shape? b = some (ty, C.size) := by unfold World.shape?; rw [hb]
  have hr : (convert t t (.slice (some ⟨b, 0, none⟩) n c)).run P w = .ok (.slice (some ⟨b, 0, none⟩) n c) (w.freeze ⟨b, C.size, none⟩ 1) := by
    simp [convert, run_underlying hu, run_underlying he, markStringish, hsh]
  unfold Oper.wp execOp
  simp only [ho, hx, Sem.run_bind, hr, Result.andThen_ok, Sem.run_pure]
  refine hK _ _ (h _ ?_ ⟨rfl, rfl, rfl, ?_, fun k hk hn => ?_⟩ ?_)
  · have hlt := (Array.getElem?_eq_some_iff.1 hb).1
    unfold World.freeze; rw [if_neg (by decide)]; simp [Array.getElem?_modify, hb]
  · unfold World.freeze; rw [if_neg (by decide)]; simp
  · unfold World.freeze; rw [if_neg (by decide)]; simp [Array.getElem?_modify, Ne.symm hn]
  · unfold World.freeze; rw [if_neg (by decide)]; simp
end
end Go.Mem
end

section
namespace Go.Proofs.Ytbiohidelhfaiaa
open Go.RowKit Go.Canon Go.Mem
set_option linter.unusedVariables false
set_option linter.unusedSimpArgs false
theorem Rd.one {w : World} {ok : Nat → Prop} {v : Value} {n : Nat} {cs : List Value} (h : Rd w ok v n cs) : v.oneCell' = true := by
  obtain ⟨A, c, rfl, _⟩ := h.slice; rfl
theorem own_self {w : World} {ok : Nat → Prop} {e : TypeId} {sz n : Nat} {v : Value} {cs : List Value} (h : OwnRow w ok e sz v n cs) : OwnRow w (fun k => v.ownBlock = some k) e sz v n cs := ⟨h.1, fun _ h => h⟩
theorem one_size {u : Value} (h : u.oneCell' = true) : u.cells.size = 1 := by
  cases u <;> simp_all [Value.oneCell', Value.cells]
theorem lit_rd {w : World} {u : Value} {g B : Nat} {t : TypeId} (h : u.oneCell' = true) (hb : w.heap[g]? = some (.cells ([u].flatMap fun v => v.cells.toList).toArray t (0, 0))) (hB : B ≤ g) : Rd w (fun k => B ≤ k) (.slice (some ⟨g, 0, none⟩) 1 1) 1 [u] := by
  have e : u.cells.toList = [u] := by cases u <;> simp_all [Value.oneCell', Value.cells]
  rw [List.flatMap_cons, List.flatMap_nil, e] at hb
  exact ⟨_, _, rfl, by decide, fun h => (by cases h), .inr ⟨g, 0, rfl, hB, fun j u hu => by rw [cell_of_row w _ _ _ _ _ hb, Nat.zero_add]; simpa using hu⟩⟩
theorem own_blk {w : World} {e : TypeId} {ok : Nat → Prop} {n g : Nat} {cs : List Value} (hb : w.heap[g]? = some (.cells cs.toArray e (0, 0))) (hl : cs.length = n) (hn : 0 < n) (hm : n ≤ maxLen) (hg : ok g) : OwnRow w ok e 1 (.slice (some ⟨g, 0, none⟩) n n) n cs := by
  refine ⟨⟨by omega, .inr ⟨g, n, cs.toArray, rfl, Nat.zero_le _, hb, Nat.le_refl _, hm, by simp [hl], by rw [Nat.mul_one, ← hl, List.take_length]⟩⟩, fun k hk => ?_⟩
  simp [Value.ownBlock] at hk
  subst hk; exact hg
theorem row_app {w w2 w3 : World} {n m : Nat} {v : Value} {xs ys : List Int} (z : w.heap.size ≤ w2.heap.size) (h : OwnRow w3 (fun k => w.heap.size ≤ k ∨ w2.heap.size ≤ k) 5 1 v (n + m) (Disk.bytes8 xs ++ Disk.bytes8 ys)) : OwnRow w3 (fun k => w.heap.size ≤ k) 5 1 v (n + m) (Disk.bytes8 (xs ++ ys)) := by
  rw [Disk.bytes8_append]
  exact h.mono (fun k _ h => by rcases h with h | h; exact h; omega)
theorem Rd.tail {w : World} {ok : Nat → Prop} {A : Option Addr} {n c : Nat} {cs : List Value} (h : Rd w ok (.slice A n c) n cs) (k : Nat) (hk : k ≤ n) (hl : cs.length = n) : Rd w ok (sliced A k n c 1) (n - k) (cs.drop k) := by
  obtain ⟨A', c', e, h2, h3, h4⟩ := h
  cases e
  unfold sliced
  refine ⟨_, _, rfl, by omega, fun e => ?_, ?_⟩
  · split at e
    · have := h3 e; omega
    · cases A with
      | none => have := h3 rfl; omega
      | some a => cases e
  · rcases h4 with h4 | ⟨b, o, e1, e2, e3⟩
    · exact .inl (by rw [h4, List.drop_nil])
    · by_cases hck : c = k
      · left
        exact List.drop_of_length_le (by omega)
      · right
        refine ⟨b, o + k, ?_, e2, fun j u hu => ?_⟩
        · rw [if_neg hck, e1]; simp [Addr.add]
        · rw [Nat.add_assoc]; exact e3 (k + j) u (by rwa [List.getElem?_drop] at hu)
theorem tail8 {w : World} {ok : Nat → Prop} {A : Option Addr} {c : Nat} {l : List Int} (h : Rd w ok (.slice A l.length c) l.length (Disk.bytes8 l)) (k : Nat) (hk : k ≤ l.length) : Rd w ok (sliced A k l.length c 1) (l.drop k).length (Disk.bytes8 (l.drop k)) := by
  have := Rd.tail h k hk (Disk.bytes8_len l)
  rw [List.length_drop]
  unfold Disk.bytes8 at *
  rw [List.map_drop]
  exact this
/-- The law says yes; nothing that was there has turned. -/
abbrev Yes (w : World) : Value → World → Prop := fun v w' => v = .bool true ∧ Keeps (fun _ => False) w w'
end Go.Proofs.Ytbiohidelhfaiaa
end

section
namespace Go.Proofs.Ytbiohidelhfaiaa
open Go.RowKit Go.Canon Go.Mem
set_option linter.unusedVariables false
set_option linter.unusedSimpArgs false
/-- The text of these bytes. -/
def str (l : List Int) : ByteArray := ⟨(l.map fun x => UInt8.ofNat x.toNat).toArray⟩
theorem str_size (l : List Int) : (str l).size = l.length := by simp [str, ByteArray.size]
theorem str_toList (l : List Int) : (str l).data.toList = l.map fun x => UInt8.ofNat x.toNat := by simp [str]
theorem byte_back {x : Int} (h : 0 ≤ x ∧ x < 256) : ((UInt8.ofNat x.toNat).toNat : Int) = x := by
  have : (UInt8.ofNat x.toNat).toNat = x.toNat % 256 := by simp
  rw [this]; omega
def bytesOf (s : ByteArray) : List Int := s.data.toList.map fun b => (b.toNat : Int)
theorem bytesOf_byte (s : ByteArray) : IsB (bytesOf s) := fun x hx => by
  unfold bytesOf at hx
  rw [List.mem_map] at hx
  obtain ⟨b, _, rfl⟩ := hx
  have := b.toNat_lt
  omega
theorem str_of (s : ByteArray) : s = str (bytesOf s) := by
  apply ByteArray.ext
  apply Array.ext'
  rw [str_toList]
  unfold bytesOf
  rw [List.map_map]
  conv => lhs; rw [← List.map_id s.data.toList]
  apply List.map_congr_left
  intro b _
  simp
theorem str_inj {a b : List Int} (ha : IsB a) (hb : IsB b) (h : str a = str b) : a = b := by
  have h1 : (str a).data.toList.map (fun b => (b.toNat : Int)) = (str b).data.toList.map (fun b => (b.toNat : Int)) := by rw [h]
  rw [str_toList, str_toList, List.map_map, List.map_map] at h1
  have h2 : ∀ l : List Int, IsB l → l.map ((fun b : UInt8 => (b.toNat : Int)) ∘ fun x : Int => UInt8.ofNat x.toNat) = l := fun l hl => by
    conv => rhs; rw [← List.map_id l]
    apply List.map_congr_left
    intro x hx
    exact byte_back (hl x hx)
  rwa [h2 a ha, h2 b hb] at h1
theorem str_eq {a b : List Int} (ha : IsB a) (hb : IsB b) : ((str a).toList == (str b).toList) = decide (a = b) := by
  rw [ByteArray.toList_eq, ByteArray.toList_eq] 
  by_cases h : a = b
  · subst h; simp
  · rw [decide_eq_false h]
    simp only [beq_eq_false_iff_ne, ne_eq]
    intro h'
    apply h
    apply str_inj ha hb
    apply ByteArray.ext
    apply Array.ext'
    exact h'
theorem str_app (a b : List Int) : str a ++ str b = str (a ++ b) := by
  apply ByteArray.ext
  apply Array.ext'
  simp [str]
theorem str_cut (l : List Int) (i j : Nat) : (str l).extract i j = str ((l.drop i).take (j - i)) := by
  unfold str
  rw [ByteArray.extract_mk, List.map_take, List.map_drop]
theorem str_at {l : List Int} (h : IsB l) {k : Nat} (hk : k < l.length) (h' : k < (str l).size) : (((str l)[k]'h').toNat : Int) = l[k] := by
  have e : (str l)[k]'h' = UInt8.ofNat (l[k]).toNat := by
    show (str l).data[k]'_ = _
    simp [str]
  rw [e]
  exact byte_back (h _ (List.getElem_mem _))
theorem strCells_str {l : List Int} (h : IsB l) : Go.Lib.strCells (str l) = Disk.bytes8 l := by
  unfold Go.Lib.strCells Disk.bytes8
  apply List.ext_getElem
  · simp [str]
  · intro j h1 h2
    have hj : j < l.length := by simpa using h2
    have e : ((UInt8.ofNat l[j].toNat).toNat : Int) = l[j] := byte_back (h _ (List.getElem_mem _))
    simp only [str, List.getElem_map]
    simpa using e
section
variable {w : World}
theorem index_str {l : List Int} (h : IsB l) {k : Nat} (hk : k < l.length) (w : World) : (Instr.index 9 (.string (str l)) (.int .i64 k)).run Try.prog w = .ok (.int .u8 l[k]) w := by
  rw [run_index_string w 9 (str l) .i64 k Try.underlying9, dif_pos ⟨by omega, by rw [str_size]; omega⟩]
  have := str_at h hk (by rw [str_size]; exact hk)
  simp only [Int.toNat_natCast]
  rw [this]
theorem slice_str {l : List Int} {i j : Nat} (h : i ≤ j) (hj : j ≤ l.length) (w : World) : (Instr.slice 9 (.string (str l)) (some (.int .i64 i)) (some (.int .i64 j)) none).run Try.prog w = .ok (.string (str ((l.drop i).take (j - i)))) w := by
  rw [run_slice_string w 9 (str l) .i64 .i64 i j Try.underlying9 (by omega) (by omega) (by rw [str_size]; omega), Int.toNat_natCast, Int.toNat_natCast, str_cut]
theorem slice_from {l : List Int} {i : Nat} (h : i ≤ l.length) (w : World) : (Instr.slice 9 (.string (str l)) (some (.int .i64 i)) none none).run Try.prog w = .ok (.string (str (l.drop i))) w := by
  rw [run_slice_string_from_if w 9 (str l) .i64 i Try.underlying9, if_pos ⟨by omega, by rw [str_size]; omega⟩, Int.toNat_natCast, str_cut, str_size, List.take_of_length_le (by rw [List.length_drop]; omega)]
theorem slice_to {l : List Int} {j : Nat} (h : j ≤ l.length) (w : World) : (Instr.slice 9 (.string (str l)) none (some (.int .i64 j)) none).run Try.prog w = .ok (.string (str (l.take j))) w := by
  rw [run_slice_string_to_if w 9 (str l) .i64 j Try.underlying9, if_pos ⟨by omega, by rw [str_size]; omega⟩, Int.toNat_natCast, str_cut, List.drop_zero, Nat.sub_zero]
theorem add_str {a b : List Int} (h : a.length + b.length ≤ 9223372036854775807) (w : World) : (Op.stringOp .add (str a) (str b)).run Try.prog w = .ok (.string (str (a ++ b))) w := by
  rw [run_string_add_sum w _ _ (by rw [str_size, str_size]; exact h), str_app]
end
end Go.Proofs.Ytbiohidelhfaiaa
end

section
namespace Go.Proofs.Ytbiohidelhfaiaa
open Go.RowKit Go.Canon Go.Mem
set_option linter.unusedVariables false
set_option linter.unusedSimpArgs false
section
variable {P : Program} {ops : Array Oper} {op : Oper} {rest : List Oper} {a : Act} {w : World} {Q : Exit → Act → World → Prop}
/-- One cell of a row of one's own is set. -/
theorem step_set {ok : Nat → Prop} (hgd : Region.wanted op (yielded ops a.tmps) = true) (ty : TypeId) (x y : Operand) (ho : op.op = .store ty x y) (e : TypeId) (g j n c : Nat) (v : Value) (cs : List Value)
    (hx : a.eval x = .pointer (some ⟨g, j, none⟩)) (hy : a.eval y = v) (hv : v.oneCell' = true) (hown : OwnRow w ok e 1 (.slice (some ⟨g, 0, none⟩) n c) n cs) (hj : j < n) (hi : (P.info? ty).map (·.size) = some 1)
    (h : ∀ w', OwnRow w' ok e 1 (.slice (some ⟨g, 0, none⟩) n c) n (cs.set j v) → Keeps (· = g) w w' → w'.heap.size = w.heap.size → wpList P ops Q rest (a.put op.dst undef) w') : wpList P ops Q (op :: rest) a w := by
  obtain ⟨g', cap, cur, e1, hok, hb, h1, h2, h3, h4⟩ := hown.form (by omega)
  cases e1
  refine step_store1 hgd ty x y ho g j v cur.toList e hx hy hv (by simpa using hb) (by rw [Array.length_toList]; omega) hi (fun w' hb' hk hs => h w' ⟨⟨by rw [List.length_set]; exact hown.len, .inr ⟨g, c, (cur.toList.set j v).toArray, rfl, Nat.zero_le _, hb', h1, h2, by simp [h3], ?_⟩⟩, fun k hk => hown.2 k hk⟩ hk hs)
  rw [← h4, Nat.mul_one, ← List.take_set]
theorem range_of {b : Nat} {vs : List Value} {te : TypeId} {fr : Nat × Nat} (hb : w.heap[b]? = some (.cells vs.toArray te fr)) : w.rangeAt b 0 vs := fun j u hu => by
  rw [cell_of_row w b (0 + j) _ te fr hb, Nat.zero_add]
  simpa using hu
/-- A struct is handed back, out of its variable. -/
theorem ret_cell {fn : Func} {t : Tmp} {ty : TypeId} (h : fn.results = #[.cell t ty]) {tmps : Array Value} {b : Nat} (vs : List Value) {te : TypeId} {fr : Nat × Nat} (d : TypeDesc) (hx : tmps.getD t undef = .pointer (some ⟨b, 0, none⟩)) (hb : w.heap[b]? = some (.cells vs.toArray te fr))
    (hu : P.underlying ty = some d) (hd : d.isRow = true) (hi : (P.info? ty).map (·.size) = some vs.length) : (results fn tmps).run P w = .ok (.agg vs.toArray) w := by
  have hx' : tmps[t]?.getD undef = .pointer (some ⟨b, 0, none⟩) := by rw [← Array.getD_eq_getD_getElem?]; exact hx
  simp [results, h, hx', asAddr, run_loadVar_mid w b 0 ty vs d (range_of hb) hu hd hi]
theorem ret_cell_tmp {fn : Func} {t s : Tmp} {ty : TypeId} (h : fn.results = #[.cell t ty, .tmp s]) {tmps : Array Value} {b : Nat} (vs : List Value) {te : TypeId} {fr : Nat × Nat} (d : TypeDesc) (hx : tmps.getD t undef = .pointer (some ⟨b, 0, none⟩)) (hb : w.heap[b]? = some (.cells vs.toArray te fr))
    (hu : P.underlying ty = some d) (hd : d.isRow = true) (hi : (P.info? ty).map (·.size) = some vs.length) : (results fn tmps).run P w = .ok (.tuple #[.agg vs.toArray, tmps.getD s undef]) w := by
  have hx' : tmps[t]?.getD undef = .pointer (some ⟨b, 0, none⟩) := by rw [← Array.getD_eq_getD_getElem?]; exact hx
  simp [results, h, hx', asAddr, run_loadVar_mid w b 0 ty vs d (range_of hb) hu hd hi]
/-- The world gets a name. -/
theorem name_ {c : Code} {a : Act} {w : World} {Q : Exit → Act → World → Prop} (h : ∀ w', w' = w → Code.wp P c Q a w') : Code.wp P c Q a w := h w rfl
theorem alloc1 {w w1 : World} {A : Array Value} {s : TypeId} (h : w1 = w.alloc (.cells A s)) : w1.heap[w.heap.size]? = some (.cells A.toList.toArray s (0, 0)) ∧ Keeps (fun _ => False) w w1 ∧ w1.heap.size = w.heap.size + 1 := by
  subst h
  exact ⟨heap_alloc_new w _, (Keeps.refl _ w).alloc _, by simp⟩
theorem alloc2 {w w1 : World} {A B : Array Value} {s t : TypeId} (h : w1 = (w.alloc (.cells A s)).alloc (.cells B t)) : w1.heap[w.heap.size]? = some (.cells A.toList.toArray s (0, 0)) ∧ w1.heap[w.heap.size + 1]? = some (.cells B.toList.toArray t (0, 0)) ∧ Keeps (fun _ => False) w w1 ∧ w1.heap.size = w.heap.size + 2 := by
  subst h
  refine ⟨?_, ?_, ((Keeps.refl _ w).alloc _).alloc _, by simp⟩
  · exact (((Keeps.refl (fun _ => False) (w.alloc (.cells A s))).alloc (.cells B t)).heap (heap_alloc_new w _) (fun h => h))
  · have := heap_alloc_new (w.alloc (.cells A s)) (.cells B t)
    simpa using this
theorem alloc3 {w w1 : World} {A B C : Array Value} {s t u : TypeId} (h : w1 = ((w.alloc (.cells A s)).alloc (.cells B t)).alloc (.cells C u)) : w1.heap[w.heap.size]? = some (.cells A.toList.toArray s (0, 0)) ∧ w1.heap[w.heap.size + 1]? = some (.cells B.toList.toArray t (0, 0)) ∧ w1.heap[w.heap.size + 1 + 1]? = some (.cells C.toList.toArray u (0, 0)) ∧ Keeps (fun _ => False) w w1 ∧ w1.heap.size = w.heap.size + 3 := by
  subst h
  obtain ⟨h1, h2, h3, h4⟩ := alloc2 (rfl : (w.alloc (.cells A s)).alloc (.cells B t) = (w.alloc (.cells A s)).alloc (.cells B t))
  have hk : Keeps (fun _ => False) ((w.alloc (.cells A s)).alloc (.cells B t)) (((w.alloc (.cells A s)).alloc (.cells B t)).alloc (.cells C u)) := (Keeps.refl _ _).alloc _
  refine ⟨hk.heap h1 (fun h => h), hk.heap h2 (fun h => h), ?_, h3.trans hk (fun _ _ h => h), by simp⟩
  have := heap_alloc_new ((w.alloc (.cells A s)).alloc (.cells B t)) (.cells C u)
  simpa using this
theorem after1 {w w2 : World} {A : Array Value} {s : TypeId} (h : Keeps (fun _ => False) (w.alloc (.cells A s)) w2) : w2.heap[w.heap.size]? = some (.cells A.toList.toArray s (0, 0)) ∧ Keeps (fun _ => False) w w2 ∧ w.heap.size + 1 ≤ w2.heap.size := by
  obtain ⟨h1, h2, h3⟩ := alloc1 (rfl : w.alloc (.cells A s) = _)
  exact ⟨h.heap h1 (fun h => h), h2.trans h (fun _ _ h => h), by have := h.size; omega⟩
theorem after2 {w w2 : World} {A B : Array Value} {s t : TypeId} (h : Keeps (fun _ => False) ((w.alloc (.cells A s)).alloc (.cells B t)) w2) : w2.heap[w.heap.size]? = some (.cells A.toList.toArray s (0, 0)) ∧ w2.heap[w.heap.size + 1]? = some (.cells B.toList.toArray t (0, 0)) ∧ Keeps (fun _ => False) w w2 ∧ w.heap.size + 2 ≤ w2.heap.size := by
  obtain ⟨h1, h2, h3, h4⟩ := alloc2 (rfl : (w.alloc (.cells A s)).alloc (.cells B t) = _)
  exact ⟨h.heap h1 (fun h => h), h.heap h2 (fun h => h), h3.trans h (fun _ _ h => h), by have := h.size; omega⟩
/-- x[k:] of a slice that is read. -/
theorem step_slice_from {ok : Nat → Prop} (hgd : Region.wanted op (yielded ops a.tmps) = true) (ty : TypeId) (x l : Operand) (ho : op.op = .slice ty x (some l) none none) (e : TypeId) (ht : P.underlying ty = some (.slice (P.elem ty))) (hi : (P.info? (P.elem ty)).map (·.size) = some 1)
    (A : Option Addr) (n c k : Nat) (kl : IntKind) (cs : List Value) (hx : a.eval x = .slice A n c) (hl : a.eval l = .int kl (k : Int)) (hk : k ≤ n) (hr : Rd w ok (.slice A n c) n cs) (hc : cs.length = n)
    (h : ∀ v, Rd w ok v (n - k) (cs.drop k) → wpList P ops Q rest (a.put op.dst v) w) : wpList P ops Q (op :: rest) a w := by
  refine plain_ hgd fun K hK => ?_
  have hrun : (Instr.sliceAt ty (.slice A n c) (some (.int kl (k : Int))) none none).run P w = .ok (sliced A k n c 1) w := by
    rw [run_sliceAt_slice w ty _ _ _ _ ht, run_slice_l w ty A n c ht kl k (by omega) (by omega)]
    cases hq : P.info? (P.elem ty) with
    | none => simp [hq] at hi
    | some i =>
      have hs : i.size = 1 := by simpa [hq] using hi
      simp [sizeOf, typeInfo, hq, hs]
  unfold Oper.wp execOp
  simp only [ho, hx, hl, Option.map_some, Option.map_none, Sem.run_bind, hrun, Result.andThen_ok, Sem.run_pure]
  exact hK _ _ (h _ (Rd.tail hr k hk hc))
/-- A text out of bytes. -/
theorem step_bytes_str {ok : Nat → Prop} (hgd : Region.wanted op (yielded ops a.tmps) = true) (src dst : TypeId) (x : Operand) (ho : op.op = .convert src dst x) (e : TypeId) (hs : P.underlying src = some (.slice e)) (he : P.underlying e = some (.int .u8)) (hd : P.underlying dst = some .string)
    (v : Value) (l : List Int) (hx : a.eval x = v) (hr : Rd w ok v l.length (Disk.bytes8 l)) (hB : IsB l)
    (h : wpList P ops Q rest (a.put op.dst (.string (str l))) w) : wpList P ops Q (op :: rest) a w := by
  refine plain_ hgd fun K hK => ?_
  obtain ⟨A, c, rfl, h2, h3, h4⟩ := hr
  have hrun : (convert src dst (.slice A l.length c)).run P w = .ok (.string (str l)) w := by
    rcases Nat.eq_zero_or_pos l.length with h0 | h0
    · have e0 : l = [] := List.eq_nil_of_length_eq_zero h0
      subst e0
      cases A with
      | none => exact Go.Lib.run_convert_nil_bytes w src dst e c hs he hd
      | some ad => exact run_convert_bytes_back w src dst e ad c [] hs he hd (fun j hj => by simp at hj)
    · rcases h4 with h4 | ⟨b, o, rfl, _, h5⟩
      · have := congrArg List.length h4
        rw [Disk.bytes8_len, List.length_nil] at this; omega
      · have := run_convert_bytes_back (P := P) w src dst e ⟨b, o, none⟩ c (l.map fun x => UInt8.ofNat x.toNat) hs he hd (fun j hj => by
          have hj' : j < l.length := by simpa using hj
          rw [Addr.add_mid, h5 j (.int .u8 l[j]) (by simp [Disk.bytes8, hj'])]
          congr 2
          rw [List.getElem_map]
          exact (byte_back (hB _ (List.getElem_mem _))).symm)
        rw [List.length_map] at this
        exact this
  unfold Oper.wp execOp
  simp only [ho, hx, Sem.run_bind, hrun, Result.andThen_ok, Sem.run_pure]
  exact hK _ _ h
end
end Go.Proofs.Ytbiohidelhfaiaa
end

section
namespace Go.Proofs.Ytbiohidelhfaiaa
open Go.RowKit Go.Canon Go.Mem
set_option linter.unusedVariables false
set_option linter.unusedSimpArgs false
theorem str_ne {l : List Int} (h : l ≠ []) : ((str l).toList == []) = false := by
    rw [ByteArray.toList_eq, beq_eq_false_iff_ne]
    intro e
    apply h
    have := congrArg List.length e
    have hs := str_size l
    have h3 : (str l).data.toList.length = (str l).size := rfl
    rw [h3, hs] at this
    exact List.eq_nil_of_length_eq_zero this
theorem str_ne0 : ((str []).toList == []) = true := by rw [ByteArray.toList_eq]; rfl
set_option maxHeartbeats 1600000 in
set_option maxRecDepth 100000 in
theorem named_c (k : List Int) (hB : IsB k) (hl : k.length ≤ 1000000) (w : World) : Calls Try.prog 48 #[.string (str k)] w (Rets (Only (.bool (Sto.keyF k)) w)) := by
  have hs := str_size k
  have HX := Lib.hid (fun (j : Nat) (h : j < k.length) (w : World) => index_str hB h w)
  have HN := Lib.hid (fun h : k ≠ [] => str_ne h)
  have HN0 := Lib.hid (fun h : k = [] => (by rw [h]; exact str_ne0 : ((str k).toList == []) = true))
  generalize str k = s at *
  go_enter Try.func48, Try.ntmps48
  go_wp2
  go_loopw [3, 6] (fun q i wr => ∃ j : Nat, j ≤ k.length ∧ i = .int .i64 j ∧ wr = w ∧ Hid ((k.take j).all Sto.keyC = true)) (fun _ i _ => k.length - (intOf i).toNat)
  case atStart => exact ⟨0, Nat.zero_le _, rfl, rfl, Lib.hid rfl⟩
  case round =>
    obtain ⟨j, hj, rfl, hw, HT⟩ := hrel
    subst wr
    by_cases hlt : j < k.length
    · have hx := HX.out j hlt w
      have HC := Lib.hid (show (k.take (j + 1)).all Sto.keyC = Sto.keyC k[j] by rw [List.take_add_one, List.getElem?_eq_getElem hlt, List.all_append, HT.out]; simp)
      have HF := Lib.hid (fun h : Sto.keyC k[j] = false => (by unfold Sto.keyF; rw [List.all_eq_false.2 ⟨k[j], List.getElem_mem _, by simp [h]⟩]; rfl : Sto.keyF k = false))
      generalize k[j] = c at *
      by_cases c1 : c < 33
      · have HG := Lib.hid (HF.out (decide_eq_false (by omega)))
        go_wp2
        go_ret
        exact ⟨by rw [HG.out]; first | rfl | (show Value.bool (decide ((k.length : Int) ≤ 40)) = _; first | rw [decide_eq_true (by omega)] | rw [decide_eq_false (by omega)]), rfl⟩
      · by_cases c2 : 126 < c
        · have HG := Lib.hid (HF.out (decide_eq_false (by omega)))
          go_wp2
          go_ret
          exact ⟨by rw [HG.out]; first | rfl | (show Value.bool (decide ((k.length : Int) ≤ 40)) = _; first | rw [decide_eq_true (by omega)] | rw [decide_eq_false (by omega)]), rfl⟩
        · have HT2 := Lib.hid (show (k.take (j + 1)).all Sto.keyC = true by rw [HC.out]; exact decide_eq_true (by omega))
          go_wp2
          go_roundw
          case rel => exact ⟨j + 1, by omega, by go_num, by trivial, HT2⟩
          case measure => simp [intOf]; omega
    · obtain rfl : j = k.length := by omega
      have HA := Lib.hid (show k.all Sto.keyC = true by have := HT.out; rwa [List.take_length] at this)
      by_cases h0 : k = []
      · have hn := HN0.out h0
        have HG := Lib.hid (show Sto.keyF k = false by rw [h0]; rfl)
        clear h0
        go_wp2
        go_ret
        exact ⟨by rw [HG.out]; first | rfl | (show Value.bool (decide ((k.length : Int) ≤ 40)) = _; first | rw [decide_eq_true (by omega)] | rw [decide_eq_false (by omega)]), rfl⟩
      · have hn := HN.out h0
        have hp : 0 < k.length := List.length_pos_iff.2 h0
        by_cases h40 : k.length ≤ 40
        · have HG := Lib.hid (show Sto.keyF k = true by unfold Sto.keyF; rw [HA.out, decide_eq_true (by omega)]; rfl)
          clear h0
          go_wp2
          go_ret
          exact ⟨by rw [HG.out]; first | rfl | (show Value.bool (decide ((k.length : Int) ≤ 40)) = _; first | rw [decide_eq_true (by omega)] | rw [decide_eq_false (by omega)]), rfl⟩
        · have HG := Lib.hid (show Sto.keyF k = false by unfold Sto.keyF; rw [decide_eq_false (by omega)]; simp)
          clear h0
          go_wp2
          go_ret
          exact ⟨by rw [HG.out]; first | rfl | (show Value.bool (decide ((k.length : Int) ≤ 40)) = _; first | rw [decide_eq_true (by omega)] | rw [decide_eq_false (by omega)]), rfl⟩
set_option maxHeartbeats 1600000 in
set_option maxRecDepth 100000 in
theorem rkey_c (k : List Int) (hB : IsB k) (hl : k.length ≤ 1000000) (w : World) : Calls Try.prog 49 #[.string (str k)] w (Rets (Only (.bool (Sto.keyF k)) w)) := by
  have hs := str_size k
  have HX := Lib.hid (fun (j : Nat) (h : j < k.length) (w : World) => index_str hB h w)
  generalize str k = s at *
  go_enter Try.func49, Try.ntmps49
  go_wp2
  go_loopw [3] (fun i wr => ∃ j : Nat, j ≤ k.length ∧ i = .int .i64 j ∧ wr = w ∧ Hid ((k.take j).all Sto.keyC = true)) (fun i _ => k.length - (intOf i).toNat)
  case atStart => exact ⟨0, Nat.zero_le _, rfl, rfl, Lib.hid rfl⟩
  case round =>
    obtain ⟨j, hj, rfl, hw, HT⟩ := hrel
    subst wr
    by_cases hlt : j < k.length
    · have hx := HX.out j hlt w
      have HC := Lib.hid (show (k.take (j + 1)).all Sto.keyC = Sto.keyC k[j] by rw [List.take_add_one, List.getElem?_eq_getElem hlt, List.all_append, HT.out]; simp)
      have HF := Lib.hid (fun h : Sto.keyC k[j] = false => (by unfold Sto.keyF; rw [List.all_eq_false.2 ⟨k[j], List.getElem_mem _, by simp [h]⟩]; rfl : Sto.keyF k = false))
      generalize k[j] = c at *
      by_cases c1 : c ≤ 32
      · have HG := Lib.hid (HF.out (decide_eq_false (by omega)))
        go_wp2
        go_ret
        exact ⟨by rw [HG.out]; first | rfl | (show Value.bool (decide ((k.length : Int) ≤ 40)) = _; first | rw [decide_eq_true (by omega)] | rw [decide_eq_false (by omega)]), rfl⟩
      · by_cases c2 : 127 ≤ c
        · have HG := Lib.hid (HF.out (decide_eq_false (by omega)))
          go_wp2
          go_ret
          exact ⟨by rw [HG.out]; first | rfl | (show Value.bool (decide ((k.length : Int) ≤ 40)) = _; first | rw [decide_eq_true (by omega)] | rw [decide_eq_false (by omega)]), rfl⟩
        · have HT2 := Lib.hid (show (k.take (j + 1)).all Sto.keyC = true by rw [HC.out]; exact decide_eq_true (by omega))
          go_wp2
          go_roundw
          case rel => exact ⟨j + 1, by omega, by go_num, by trivial, HT2⟩
          case measure => simp [intOf]; omega
    · obtain rfl : j = k.length := by omega
      have HA := Lib.hid (show k.all Sto.keyC = true by have := HT.out; rwa [List.take_length] at this)
      by_cases hp : 1 ≤ k.length
      · by_cases h40 : k.length ≤ 40
        · have HG := Lib.hid (show Sto.keyF k = true by unfold Sto.keyF; rw [HA.out, decide_eq_true (by omega)]; rfl)
          go_wp2
          go_ret
          exact ⟨by rw [HG.out]; first | rfl | (show Value.bool (decide ((k.length : Int) ≤ 40)) = _; first | rw [decide_eq_true (by omega)] | rw [decide_eq_false (by omega)]), rfl⟩
        · have HG := Lib.hid (show Sto.keyF k = false by unfold Sto.keyF; rw [decide_eq_false (by omega)]; simp)
          go_wp2
          go_ret
          exact ⟨by rw [HG.out]; first | rfl | (show Value.bool (decide ((k.length : Int) ≤ 40)) = _; first | rw [decide_eq_true (by omega)] | rw [decide_eq_false (by omega)]), rfl⟩
      · have HG := Lib.hid (show Sto.keyF k = false by unfold Sto.keyF; rw [decide_eq_false (by omega)]; simp)
        go_wp2
        go_ret
        exact ⟨by rw [HG.out]; first | rfl | (show Value.bool (decide ((k.length : Int) ≤ 40)) = _; first | rw [decide_eq_true (by omega)] | rw [decide_eq_false (by omega)]), rfl⟩
end Go.Proofs.Ytbiohidelhfaiaa
end

section
namespace Go.Proofs.Ytbiohidelhfaiaa
open Go.RowKit Go.Canon Go.Mem
set_option linter.unusedVariables false
set_option linter.unusedSimpArgs false
/-- Bytes of the call's own; all that was there is as it was. -/
def Out (W w : World) (v : Value) (l : List Int) : Prop := OwnRow w (fun j => W.heap.size ≤ j) 5 1 v l.length (Disk.bytes8 l) ∧ Keeps (fun _ => False) W w
section
variable {P : Program} {ops : Array Oper} {op : Oper} {rest : List Oper} {a : Act} {W w : World} {Q : Exit → Act → World → Prop}
theorem Out.kept {w' : World} {v : Value} {l : List Int} (h : Out W w v l) (hk : Keeps (fun _ => False) w w') : Out W w' v l := ⟨h.1.kept hk (fun _ _ h => h), h.2.trans hk (fun _ _ h => h)⟩
theorem Out.nil (w : World) : Out w w (.slice none 0 0) [] := ⟨OwnRow.nil _ _ _ _, Keeps.refl _ _⟩
theorem out_str (hgd : Region.wanted op (yielded ops a.tmps) = true) (s x : Operand) (ho : op.op = .call { callee := .builtin .append, args := #[s, x], argTypes := #[23, 9] })
    (v : Value) (l : List Int) (hs : a.eval s = v) (h : Out W w v l) (b : List Int) (hx : a.eval x = .string (str b)) (hB : IsB b) (hn : l.length + b.length ≤ 1000000000)
    (k : ∀ v' w', Out W w' v' (l ++ b) → Keeps (fun j => W.heap.size ≤ j) w w' → wpList Try.prog ops Q rest (a.put op.dst v') w') : wpList Try.prog ops Q (op :: rest) a w := by
  refine step_append_str hgd s x _ _ ho 5 Try.underlying23 Try.underlying9 row_byte v l.length _ hs h.1 (str b) hx (by rw [str_size]; simp only [maxLen]; omega) (by rw [str_size]; omega) (fun v' w' h1 h2 => k v' w' ⟨?_, h.2.trans h2 (fun j hj e => by have := h.1.2 j e; omega)⟩ (h2.mono (fun j _ e => h.1.2 j e)))
  rw [str_size, strCells_str hB] at h1
  rw [List.length_append, Disk.bytes8_append]
  exact h1.mono (fun j _ e => e.elim (fun h => h) (fun e => Nat.le_trans h.2.size e))
theorem out_rd {ok : Nat → Prop} (hgd : Region.wanted op (yielded ops a.tmps) = true) (s x : Operand) (ho : op.op = .call { callee := .builtin .append, args := #[s, x], argTypes := #[23, 23] })
    (v : Value) (l : List Int) (hs : a.eval s = v) (h : Out W w v l) (xv : Value) (n : Nat) (b : List Int) (hx : a.eval x = xv) (hr : Rd w ok xv n (Disk.bytes8 b)) (hl : b.length = n) (hn : l.length + b.length ≤ 1000000000)
    (k : ∀ v' w', Out W w' v' (l ++ b) → Keeps (fun j => W.heap.size ≤ j) w w' → wpList Try.prog ops Q rest (a.put op.dst v') w') : wpList Try.prog ops Q (op :: rest) a w := by
  subst hl
  refine step_append_rd hgd s x _ ho 5 _ 1 1 Try.underlying23 row_byte rfl (by decide) v l.length _ hs h.1 xv b.length (Disk.bytes8 b) hx hr (by rw [Disk.bytes8_len, Nat.mul_one]) (Disk.bytes8_one b) (by simp only [maxLen]; omega) (by omega) (fun v' w' h1 h2 => k v' w' ⟨?_, h.2.trans h2 (fun j hj e => by have := h.1.2 j e; omega)⟩ (h2.mono (fun j _ e => h.1.2 j e)))
  rw [List.length_append, Disk.bytes8_append]
  exact h1.mono (fun j _ e => e.elim (fun h => h) (fun e => Nat.le_trans h.2.size e))
theorem app_str {ok : Nat → Prop} (hgd : Region.wanted op (yielded ops a.tmps) = true) (s x : Operand) (ho : op.op = .call { callee := .builtin .append, args := #[s, x], argTypes := #[23, 9] })
    (v : Value) (l : List Int) (hs : a.eval s = v) (h : OwnRow w ok 5 1 v l.length (Disk.bytes8 l)) (b : List Int) (hx : a.eval x = .string (str b)) (hB : IsB b) (hn : l.length + b.length ≤ 1000000000)
    (k : ∀ v' w', OwnRow w' (fun j => ok j ∨ w.heap.size ≤ j) 5 1 v' (l ++ b).length (Disk.bytes8 (l ++ b)) → Keeps ok w w' → wpList Try.prog ops Q rest (a.put op.dst v') w') : wpList Try.prog ops Q (op :: rest) a w := by
  refine step_append_str hgd s x _ _ ho 5 Try.underlying23 Try.underlying9 row_byte v l.length _ hs h (str b) hx (by rw [str_size]; simp only [maxLen]; omega) (by rw [str_size]; omega) (fun v' w' h1 h2 => k v' w' ?_ (h2.mono (fun j _ e => h.2 j e)))
  rw [str_size, strCells_str hB] at h1
  rw [List.length_append, Disk.bytes8_append]
  exact h1
theorem app_rd {ok ok2 : Nat → Prop} (hgd : Region.wanted op (yielded ops a.tmps) = true) (s x : Operand) (ho : op.op = .call { callee := .builtin .append, args := #[s, x], argTypes := #[23, 23] })
    (v : Value) (l : List Int) (hs : a.eval s = v) (h : OwnRow w ok 5 1 v l.length (Disk.bytes8 l)) (xv : Value) (n : Nat) (b : List Int) (hx : a.eval x = xv) (hr : Rd w ok2 xv n (Disk.bytes8 b)) (hl : b.length = n) (hn : l.length + b.length ≤ 1000000000)
    (k : ∀ v' w', OwnRow w' (fun j => ok j ∨ w.heap.size ≤ j) 5 1 v' (l ++ b).length (Disk.bytes8 (l ++ b)) → Keeps ok w w' → wpList Try.prog ops Q rest (a.put op.dst v') w') : wpList Try.prog ops Q (op :: rest) a w := by
  subst hl
  refine step_append_rd hgd s x _ ho 5 _ 1 1 Try.underlying23 row_byte rfl (by decide) v l.length _ hs h xv b.length (Disk.bytes8 b) hx hr (by rw [Disk.bytes8_len, Nat.mul_one]) (Disk.bytes8_one b) (by simp only [maxLen]; omega) (by omega) (fun v' w' h1 h2 => k v' w' ?_ (h2.mono (fun j _ e => h.2 j e)))
  rw [List.length_append, Disk.bytes8_append]
  exact h1
end
/-- One byte, in a block of its own. -/
theorem lit_one {w : World} {x : Int} {g B : Nat} {t : TypeId} (hb : w.heap[g]? = some (.cells ([Value.int .u8 x].flatMap fun v => v.cells.toList).toArray t (0, 0))) (hB : B ≤ g) : Rd w (fun k => B ≤ k) (.slice (some ⟨g, 0, none⟩) 1 1) 1 (Disk.bytes8 [x]) := lit_rd rfl hb hB
end Go.Proofs.Ytbiohidelhfaiaa
end

section
namespace Go.Proofs.Ytbiohidelhfaiaa
open Go.RowKit Go.Canon Go.Mem
set_option linter.unusedVariables false
set_option linter.unusedSimpArgs false
theorem or_top (y : Nat) : bits .or .u8 ((y : Int) % 256) 128 = 128 + ((y % 128 : Nat) : Int) := by
  have h : ∀ m : Fin 256, bits .or .u8 ((m.val : Nat) : Int) 128 = 128 + ((m.val % 128 : Nat) : Int) := by decide +kernel
  have := h ⟨y % 256, Nat.mod_lt _ (by decide)⟩
  simp only at this
  rw [show ((y : Int) % 256) = ((y % 256 : Nat) : Int) by omega, this]
  omega
set_option maxHeartbeats 1600000 in
set_option maxRecDepth 100000 in
theorem wvar_c (x : Nat) (hx : x < 18446744073709551616) (w : World) : Calls Try.prog 40 #[.int .u64 x] w (Rets fun v w' => Out w w' v (Sto.varF x)) := by
  go_enter Try.func40, Try.ntmps40
  go_wp2
  go_loopw [0, 3] (fun xv bv wr => ∃ (f y : Nat) (p : List Int), xv = .int .u64 y ∧ y < 18446744073709551616 ∧ p.length + f ≤ 9 ∧ Out w wr bv p ∧ Hid (Sto.varF x = p ++ Sto.var f y ∧ y < 128 ^ (f + 1))) (fun xv _ _ => (intOf xv).toNat)
  case atStart =>
    have h10 : (128 : Nat) ^ (9 + 1) = 1180591620717411303424 := by decide
    exact ⟨9, x, [], rfl, hx, by decide, Out.nil w, Lib.hid ⟨rfl, by omega⟩⟩
  case round =>
    obtain ⟨f, y, p, rfl, hy, hpf, hO, HV⟩ := hrel
    have HO := Lib.hid hO
    obtain ⟨A, c, rfl, _⟩ := hO.1.slice
    clear hO
    by_cases hlt : y < 128
    · have HE := Lib.hid (show Sto.varF x = p ++ [(y : Int)] by
        rw [HV.out.1]
        cases f with
        | zero => rfl
        | succ f => rw [Sto.var, if_pos hlt])
      go_wp2_with (first
        | ((with_reducible refine at_ 17 rfl ?_); go_must (refine step_lit rfl 23 _ 1 rfl [.int .u8 (y : Int)] rfl rfl (by decide) 5 _ 1 Try.underlying23 row2_byte (by decide) (by decide) (by intro v hv; rw [List.mem_singleton] at hv; subst hv; rfl) ?_); intro w2 hb2 hk2 hs2)
        | ((with_reducible refine at_ 18 rfl ?_); go_must (refine out_rd (W := w) rfl _ _ rfl (.slice A p.length c) p rfl (HO.out.kept hk2) _ 1 [(y : Int)] rfl (lit_one hb2 (Nat.le_refl _)) rfl (by simp only [List.length_cons, List.length_nil]; omega) ?_); intro v3 w3 hO3 hk3))
      go_ret
      rw [HE.out]
      exact hO3
    · obtain ⟨f, rfl⟩ : ∃ g, f = g + 1 := by
        cases f with
        | zero => have := HV.out.2; simp at this; omega
        | succ f => exact ⟨f, rfl⟩
      have HV2 := Lib.hid (show Sto.varF x = (p ++ [128 + ((y % 128 : Nat) : Int)]) ++ Sto.var f (y / 128) ∧ y / 128 < 128 ^ (f + 1) by
        refine ⟨?_, ?_⟩
        · rw [HV.out.1, Sto.var, if_neg hlt, List.append_assoc]; rfl
        · have h1 := HV.out.2
          have hp : (128 : Nat) ^ (f + 1 + 1) = 128 * 128 ^ (f + 1) := by rw [Nat.pow_succ]; omega
          rw [Nat.div_lt_iff_lt_mul (by decide)]; omega)
      have HOr := Lib.hid (or_top y)
      go_wp2_with (first
        | ((with_reducible refine at_ 10 rfl ?_); go_must (refine step_lit rfl 23 _ 1 rfl [.int .u8 (bits .or .u8 ((y : Int) % 256) 128)] rfl rfl (by decide) 5 _ 1 Try.underlying23 row2_byte (by decide) (by decide) (by intro v hv; rw [List.mem_singleton] at hv; subst hv; rfl) ?_); intro w2 hb2 hk2 hs2; rw [HOr.out] at hb2)
        | ((with_reducible refine at_ 11 rfl ?_); go_must (refine out_rd (W := w) rfl _ _ rfl (.slice A p.length c) p rfl (HO.out.kept hk2) _ 1 [128 + ((y % 128 : Nat) : Int)] rfl (lit_one hb2 (Nat.le_refl _)) rfl (by simp only [List.length_cons, List.length_nil]; omega) ?_); intro v3 w3 hO3 hk3))
      go_roundw
      case rel => exact ⟨f, y / 128, _, by go_num, by omega, by simp only [List.length_append, List.length_cons, List.length_nil]; omega, hO3, HV2⟩
      case measure => simp [intOf]; omega
theorem lit_out {W w : World} {x : Int} {g : Nat} (hb : w.heap[g]? = some (.cells ([Value.int .u8 x].flatMap fun v => v.cells.toList).toArray 5 (0, 0))) (hg : W.heap.size ≤ g) (hk : Keeps (fun _ => False) W w) : Out W w (.slice (some ⟨g, 0, none⟩) 1 1) [x] := ⟨own_blk (cs := [Value.int .u8 x]) hb rfl (by decide) (by decide) hg, hk⟩
set_option maxHeartbeats 1600000 in
set_option maxRecDepth 100000 in
theorem rvar_c : ∀ (f x : Nat), x < 18446744073709551616 → x < 128 ^ (f + 1) → f ≤ 9 → ∀ w : World, Calls Try.prog 41 #[.int .u64 x] w (Rets fun v w' => Out w w' v (Sto.var f x)) := by
  intro f
  induction f with
  | zero =>
    intro x hx hx2 hf w
    have hlt : x < 128 := by simpa using hx2
    have HE := Lib.hid (show Sto.var 0 x = [(x : Int)] from rfl)
    clear hx2
    go_enter Try.func41, Try.ntmps41
    go_wp2_with ((with_reducible refine at_ 7 rfl ?_); go_must (refine step_lit rfl 23 _ 1 rfl [.int .u8 (x : Int)] rfl rfl (by decide) 5 _ 1 Try.underlying23 row2_byte (by decide) (by decide) (by intro v hv; rw [List.mem_singleton] at hv; subst hv; rfl) ?_); intro w2 hb2 hk2 hs2)
    go_ret
    rw [HE.out]
    exact lit_out hb2 (Nat.le_refl _) hk2
  | succ f ih =>
    intro x hx hx2 hf w
    by_cases hlt : x < 128
    · have HE := Lib.hid (show Sto.var (f + 1) x = [(x : Int)] by rw [Sto.var, if_pos hlt])
      clear hx2 ih
      go_enter Try.func41, Try.ntmps41
      go_wp2_with ((with_reducible refine at_ 7 rfl ?_); go_must (refine step_lit rfl 23 _ 1 rfl [.int .u8 (x : Int)] rfl rfl (by decide) 5 _ 1 Try.underlying23 row2_byte (by decide) (by decide) (by intro v hv; rw [List.mem_singleton] at hv; subst hv; rfl) ?_); intro w2 hb2 hk2 hs2)
      go_ret
      rw [HE.out]
      exact lit_out hb2 (Nat.le_refl _) hk2
    · have hp : (128 : Nat) ^ (f + 1 + 1) = 128 * 128 ^ (f + 1) := by rw [Nat.pow_succ]; omega
      have HE := Lib.hid (show Sto.var (f + 1) x = [128 + ((x % 128 : Nat) : Int)] ++ Sto.var f (x / 128) by rw [Sto.var, if_neg hlt]; rfl)
      have HI := Lib.hid (by
        have := ih (x / 128) (by omega) (by rw [Nat.div_lt_iff_lt_mul (by decide)]; omega) (by omega)
        rwa [show (((x / 128 : Nat)) : Int) = (x : Int) / 128 by omega] at this : ∀ w : World, Calls Try.prog 41 #[.int .u64 ((x : Int) / 128)] w (Rets fun v w' => Out w w' v (Sto.var f (x / 128))))
      have hvl : (Sto.var f (x / 128)).length ≤ f + 1 := by
        have : ∀ f y, (Sto.var f y).length ≤ f + 1 := by
          intro f
          induction f with
          | zero => intro y; simp [Sto.var]
          | succ f ih => intro y; rw [Sto.var]; split <;> simp; exact ih _
        exact this _ _
      have hm : ((x % 128 : Nat) : Int) = (x : Int) % 128 := by omega
      rw [hm] at HE
      generalize Sto.var f (x / 128) = vr at *
      clear hx2 ih hp hm
      go_enter Try.func41, Try.ntmps41
      go_wp2_with (first
        | ((with_reducible refine at_ 12 rfl ?_); go_must (refine step_lit rfl 23 _ 1 rfl [.int .u8 (128 + (x : Int) % 128)] rfl rfl (by decide) 5 _ 1 Try.underlying23 row2_byte (by decide) (by decide) (by intro v hv; rw [List.mem_singleton] at hv; subst hv; rfl) ?_); intro w2 hb2 hk2 hs2)
        | (go_at_call 41; refine Rets.use (HI.out _) ?_; rintro v3 w3 hO3)
        | ((with_reducible refine at_ 16 rfl ?_); go_must (refine out_rd (W := w) rfl _ _ rfl _ [128 + (x : Int) % 128] rfl ((lit_out (W := w) hb2 (Nat.le_refl _) hk2).kept hO3.2) v3 _ vr rfl hO3.1.rd rfl (by simp only [List.length_cons, List.length_nil]; omega) ?_); intro v4 w4 hO4 hk4))
      go_ret
      rw [HE.out]
      exact hO4
theorem rvarF_c (x : Nat) (hx : x < 18446744073709551616) (w : World) : Calls Try.prog 41 #[.int .u64 x] w (Rets fun v w' => Out w w' v (Sto.varF x)) :=
  rvar_c 9 x hx (by have : (128 : Nat) ^ (9 + 1) = 1180591620717411303424 := by decide
                    omega) (Nat.le_refl _) w
end Go.Proofs.Ytbiohidelhfaiaa
end
