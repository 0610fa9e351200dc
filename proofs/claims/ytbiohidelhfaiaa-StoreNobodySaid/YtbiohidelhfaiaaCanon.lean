/-
  A region whose order is drawn, walked in ONE order (plain law, over whatever program): where each operation is either dry (its answer does not hang on the world), or only reads while nothing that writes may come ahead of it, or is the only one that can come next.
-/
import Derived.Orders
import Derived.Tactics
import Derived.Laws.Sem
import Derived.Laws.Panics
namespace Go.Canon

/-! ### dry, reading -/
def Dry {α : Type} (P : Program) (s : Sem α) : Prop := ∀ w x w', s.run P w = .ok x w' → w' = w ∧ ∀ w2, s.run P w2 = .ok x w2
def Damp {α : Type} (P : Program) (s : Sem α) : Prop := ∀ w x w', s.run P w = .ok x w' → w' = w
variable {P : Program}

theorem Dry.damp {α : Type} {s : Sem α} (h : Dry P s) : Damp P s := fun w x w' e => (h w x w' e).1
theorem Dry.pure {α : Type} (a : α) : Dry P (Pure.pure a : Sem α) := fun w x w' e => by
  simp only [Sem.run_pure, Result.ok.injEq] at e
  obtain ⟨rfl, rfl⟩ := e
  exact ⟨rfl, fun _ => by simp⟩
theorem Damp.pure {α : Type} (a : α) : Damp P (Pure.pure a : Sem α) := (Dry.pure a).damp
theorem Dry.halt {α : Type} (h : Halt) : Dry P (Sem.halt h : Sem α) := fun w x w' e => by simp [Sem.run] at e
theorem Damp.halt {α : Type} (h : Halt) : Damp P (Sem.halt h : Sem α) := (Dry.halt h).damp
theorem run_bind_ok {α β : Type} {s : Sem α} {f : α → Sem β} {w : World} {x : β} {w' : World} (e : (s >>= f).run P w = .ok x w') :
    ∃ y w1, s.run P w = .ok y w1 ∧ (f y).run P w1 = .ok x w' := by
  rw [Sem.run_bind] at e
  cases h : s.run P w with
  | ok y w1 => rw [h] at e; exact ⟨y, w1, rfl, e⟩
  | halt z w1 => rw [h] at e; simp [Result.andThen] at e
theorem Dry.bind {α β : Type} {s : Sem α} {f : α → Sem β} (h : Dry P s) (hf : ∀ y, Dry P (f y)) : Dry P (s >>= f) := fun w x w' e => by
  obtain ⟨y, w1, h1, h2⟩ := run_bind_ok e
  obtain ⟨rfl, h3⟩ := h w y w1 h1
  obtain ⟨rfl, h4⟩ := hf y _ x w' h2
  exact ⟨rfl, fun w2 => by rw [Sem.run_bind, h3 w2]; exact h4 w2⟩
theorem Damp.bind {α β : Type} {s : Sem α} {f : α → Sem β} (h : Damp P s) (hf : ∀ y, Damp P (f y)) : Damp P (s >>= f) := fun w x w' e => by
  obtain ⟨y, w1, h1, h2⟩ := run_bind_ok e
  obtain rfl := h w y w1 h1
  exact hf y _ x w' h2
theorem Dry.program : Dry P Go.program := fun w x w' e => by
  simp only [Go.program, Sem.run, Result.ok.injEq] at e
  obtain ⟨rfl, rfl⟩ := e
  exact ⟨rfl, fun _ => rfl⟩
def Fails {α : Type} (P : Program) (s : Sem α) : Prop := ∀ w x w', s.run P w ≠ .ok x w'
theorem Fails.dry {α : Type} {s : Sem α} (h : Fails P s) : Dry P s := fun w x w' e => (h w x w' e).elim
theorem Fails.bindL {α β : Type} {s : Sem α} {f : α → Sem β} (h : Fails P s) : Fails P (s >>= f) := fun w x w' e => by
  obtain ⟨y, w1, h1, _⟩ := run_bind_ok e
  exact h _ _ _ h1
theorem Fails.bindR {α β : Type} {s : Sem α} {f : α → Sem β} (h : ∀ y, Fails P (f y)) : Fails P (s >>= f) := fun w x w' e => by
  obtain ⟨y, w1, _, h2⟩ := run_bind_ok e
  exact h y _ _ _ h2
theorem Fails.halt {α : Type} (h : Halt) : Fails P (Sem.halt h : Sem α) := fun w x w' e => by simp [Sem.run] at e
theorem Fails.goPanic {α : Type} (v : Value) : Fails P (Go.goPanic v : Sem α) := Fails.halt _
theorem Fails.stuck {α : Type} (v : String) : Fails P (Go.stuck v : Sem α) := Fails.halt _
theorem Fails.unsupported {α : Type} (v : Unsupported) : Fails P (Go.unsupported v : Sem α) := Fails.halt _
theorem Fails.runtimePanic {α : Type} (e : RuntimeError) : Fails P (Go.runtimePanic e : Sem α) := by
  unfold Go.runtimePanic
  refine Fails.bindR (fun p => ?_)
  cases e <;> first
    | exact Fails.goPanic _
    | exact Fails.bindR (fun _ => Fails.bindR (fun _ => Fails.goPanic _))
theorem Fails.boundsPanic {α : Type} (k : IntKind) (x y : Int) (c : BoundsCode) : Fails P (Go.boundsPanic k x y c : Sem α) := by
  unfold Go.boundsPanic
  dsimp only
  split <;> exact Fails.bindR (fun _ => Fails.runtimePanic _)
theorem Dry.stuck {α : Type} (v : String) : Dry P (Go.stuck v : Sem α) := (Fails.stuck v).dry
theorem Dry.unsupported {α : Type} (v : Unsupported) : Dry P (Go.unsupported v : Sem α) := (Fails.unsupported v).dry
theorem Dry.typeInfo (t : TypeId) : Dry P (Go.typeInfo t) := by
  unfold Go.typeInfo
  refine Dry.program.bind (fun p => ?_)
  split
  · exact Dry.pure _
  · exact Dry.stuck _
theorem Dry.underlying (t : TypeId) : Dry P (Go.underlying t) := by
  unfold Go.underlying
  refine Dry.program.bind (fun p => ?_)
  split
  · exact Dry.pure _
  · exact Dry.stuck _
theorem Dry.sizeOf (t : TypeId) : Dry P (Go.sizeOf t) := (Dry.typeInfo t).bind (fun _ => Dry.pure _)
theorem Dry.isAgg (t : TypeId) : Dry P (Go.isAgg t) := by
  unfold Go.isAgg
  refine (Dry.underlying t).bind (fun d => ?_)
  split <;> exact Dry.pure _
theorem Dry.asIntOf (v : Value) : Dry P (Go.asIntOf v) := by
  unfold Go.asIntOf
  split
  · exact Dry.pure _
  · exact Dry.unsupported _
  · exact Dry.stuck _
theorem Dry.asBool (v : Value) : Dry P (Go.asBool v) := by
  unfold Go.asBool
  split
  · exact Dry.pure _
  · exact Dry.stuck _
theorem Dry.asAgg (v : Value) : Dry P (Go.asAgg v) := by
  unfold Go.asAgg
  split
  · exact Dry.pure _
  · exact Dry.stuck _
theorem Dry.asAddr (v : Value) : Dry P (Go.asAddr v) := by
  unfold Go.asAddr
  split
  · exact Dry.pure _
  · exact (Fails.runtimePanic _).dry
  · exact Dry.stuck _
theorem Dry.sureAddr (v : Value) : Dry P (Instr.sureAddr v) := by
  unfold Instr.sureAddr
  split
  · exact Dry.pure _
  · exact Dry.stuck _
theorem Dry.part (t : TypeId) (cs : Array Value) (off : Nat) : Dry P (Go.part t cs off) := by
  unfold Go.part
  refine (Dry.isAgg t).bind (fun b => ?_)
  cases b
  · simp only [Bool.false_eq_true, if_false]
    split
    · exact Dry.pure _
    · exact Dry.stuck _
  · simp only [if_true]
    exact (Dry.sizeOf t).bind (fun _ => Dry.pure _)
theorem Dry.sliceBound (x : Value) (y : Nat) (c : BoundsCode) : Dry P (Instr.sliceBound x y c) := by
  unfold Instr.sliceBound
  refine (Dry.asIntOf x).bind (fun p => ?_)
  obtain ⟨k, i⟩ := p
  simp only
  split
  · exact Dry.pure _
  · exact (Fails.boundsPanic _ _ _ _).dry
theorem Dry.sliceBounds (b : Bool) (l c : Nat) (lo hi mx : Option Value) : Dry P (Instr.sliceBounds b l c lo hi mx) := by
  unfold Instr.sliceBounds
  dsimp only
  repeat' first
    | exact Dry.pure _
    | exact Dry.sliceBound _ _ _
    | exact Dry.stuck _
    | refine Dry.bind ?_ (fun _ => ?_)
    | split
theorem Dry.slice (t : TypeId) (x : Value) (lo hi mx : Option Value) : Dry P (Instr.slice t x lo hi mx) := by
  unfold Instr.slice
  dsimp only
  repeat' first
    | exact Dry.pure _
    | exact Dry.sliceBounds _ _ _ _ _ _
    | exact Dry.stuck _
    | exact Dry.asAddr _
    | exact Dry.sizeOf _
    | exact Dry.underlying _
    | refine Dry.bind ?_ (fun _ => ?_)
    | split
theorem Dry.sliceAt (t : TypeId) (x : Value) (lo hi mx : Option Value) : Dry P (Instr.sliceAt t x lo hi mx) := by
  unfold Instr.sliceAt
  refine (Dry.underlying t).bind (fun d => ?_)
  split
  · exact (Dry.sureAddr _).bind (fun _ => (Dry.sliceBounds _ _ _ _ _ _).bind (fun _ => (Dry.sizeOf _).bind (fun _ => Dry.pure _)))
  · exact Dry.slice _ _ _ _ _
theorem Dry.indexAt (t : TypeId) (x ix : Value) : Dry P (Instr.indexAt t x ix) := by
  unfold Instr.indexAt
  dsimp only
  repeat' first
    | exact Dry.pure _
    | exact Dry.asIntOf _
    | exact Dry.stuck _
    | exact Dry.unsupported _
    | exact (Fails.boundsPanic _ _ _ _).dry
    | exact Dry.sureAddr _
    | exact Dry.sizeOf _
    | exact Dry.underlying _
    | refine Dry.bind ?_ (fun _ => ?_)
    | split
theorem Dry.field (t : TypeId) (x : Value) (f : Nat) : Dry P (Instr.field t x f) := by
  unfold Instr.field
  refine (Dry.underlying t).bind (fun d => ?_)
  split
  · split
    · exact (Dry.asAgg _).bind (fun _ => Dry.part _ _ _)
    · exact Dry.stuck _
  · exact Dry.stuck _
theorem Dry.index (t : TypeId) (x ix : Value) : Dry P (Instr.index t x ix) := by
  unfold Instr.index
  refine (Dry.asIntOf ix).bind (fun p => ?_)
  obtain ⟨k, i⟩ := p
  simp only
  refine (Dry.underlying t).bind (fun d => ?_)
  split
  · split
    · exact (Dry.sizeOf _).bind (fun _ => Dry.part _ _ _)
    · exact (Fails.boundsPanic _ _ _ _).dry
  · split
    · exact Dry.pure _
    · exact (Fails.boundsPanic _ _ _ _).dry
  · exact Dry.stuck _
theorem Dry.extract (v : Value) (i : Nat) : Dry P (Instr.extract v i) := by
  unfold Instr.extract
  split
  · split
    · exact Dry.pure _
    · exact Dry.stuck _
  · exact Dry.stuck _

theorem Dry.fieldAt (s : TypeId) (x : Value) (f : Nat) (h : (match P.underlying s with | some (.struct fields) => (match fields[f]? with | some fd => (match P.info? fd.type with | some i => i.size != 0 | none => false) | none => false) | _ => false) = true) :
    Dry P (Instr.fieldAt s x f) := fun w v w' e => by
  unfold Instr.fieldAt at *
  cases hu : P.underlying s with
  | none => rw [hu] at h; cases h
  | some d =>
    rw [hu] at h
    have hun : ∀ w, (Go.underlying s).run P w = .ok d w := fun w => run_underlying hu w
    cases d <;> try cases h
    case struct fields =>
      cases hf : fields[f]? with
      | none => simp [hf] at h
      | some fd =>
        simp only [hf] at h
        cases hi : P.info? fd.type with
        | none => rw [hi] at h; cases h
        | some i =>
          rw [hi] at h
          have hsz : ∀ w, (Go.sizeOf fd.type).run P w = .ok i.size w := fun w => by simp [Go.sizeOf, Go.typeInfo, hi]
          have hne : i.size ≠ 0 := by simpa using h
          obtain ⟨d1, w1, h1, e⟩ := run_bind_ok e
          rw [hun] at h1
          simp only [Result.ok.injEq] at h1
          obtain ⟨rfl, rfl⟩ := h1
          simp only [hf] at e
          have hd : Dry P (do
              let a ← Instr.sureAddr x
              Pure.pure (Value.pointer (some (← Go.fieldPlace a fd))) : Sem Value) := by
            refine (Dry.sureAddr x).bind (fun a => Dry.bind (fun w x w' e => ?_) (fun _ => Dry.pure _))
            unfold Go.fieldPlace at *
            obtain ⟨n, w1, h1, e⟩ := run_bind_ok e
            rw [hsz] at h1
            simp only [Result.ok.injEq] at h1
            obtain ⟨rfl, rfl⟩ := h1
            rw [if_neg hne] at e
            simp only [Sem.run_pure, Result.ok.injEq] at e
            obtain ⟨rfl, rfl⟩ := e
            exact ⟨rfl, fun w2 => by rw [Sem.run_bind, hsz]; simp [hne]⟩
          obtain ⟨rfl, h2⟩ := hd _ _ _ e
          exact ⟨rfl, fun w2 => by rw [Sem.run_bind, hun]; simp only [Result.andThen, hf]; exact h2 w2⟩

theorem Dry.unary (op : UnOp) (x : Value) : Dry P (Op.unary op x) := by
  unfold Op.unary
  split
  · exact Dry.pure _
  · unfold Op.intBits; exact Dry.pure _
  · exact Dry.pure _
  · exact Dry.pure _
  · exact Dry.pure _
  · exact Dry.unsupported _
  · exact Dry.unsupported _
  · exact Dry.stuck _

/-- Two values at which a comparison, a sum .. hangs on nothing else. -/
def plain2 : Value → Value → Bool
  | .int _ _, .int _ _ => true
  | .string _, .string _ => true
  | .bool _, .bool _ => true
  | .slice _ _ _, .slice none _ _ => true
  | .pointer _, .pointer none => true
  | _, _ => false

theorem Dry.equalIn (d : Nat) (t : TypeId) (x y : Value) (h : plain2 x y = true) : Dry P (Op.equalIn (d + 1) t x y) := by
  unfold Op.equalIn
  refine (Dry.underlying t).bind (fun u => ?_)
  cases x <;> cases y <;> try cases h
  case bool.bool a b => cases u <;> first | exact Dry.pure _ | exact Dry.stuck _
  case int.int k a k' b =>
    cases u <;> dsimp only <;> first
      | exact Dry.stuck _
      | (split <;> first | exact Dry.pure _ | exact Dry.stuck _)
  case string.string a b => cases u <;> first | exact Dry.pure _ | exact Dry.stuck _
  case slice.slice a n c b m e =>
    cases b with
    | some _ => cases h
    | none => cases u <;> cases a <;> first | exact Dry.pure _ | exact Dry.stuck _
  case pointer.pointer a b =>
    cases b with
    | some _ => cases h
    | none => cases u <;> cases a <;> first | exact Dry.pure _ | exact Dry.stuck _ | exact Dry.unsupported _

theorem Dry.ite {α : Type} {c : Prop} [Decidable c] {s t : Sem α} (h1 : Dry P s) (h2 : Dry P t) : Dry P (if c then s else t) := by
  split
  · exact h1
  · exact h2

theorem Dry.eqGuard (op : BinOp) (t : TypeId) (a b : Operand) (x y : Value) (h : plain2 x y = true) : Dry P (Go.eqGuard op t a b x y) := by
  unfold Go.eqGuard
  cases x <;> cases y <;> first | exact absurd h Bool.false_ne_true | (cases op <;> exact Dry.pure _)

theorem Dry.binOp (op : BinOp) (t : TypeId) (x y : Value) (h : plain2 x y = true) : Dry P (Go.binOp op t x y) := by
  have heq : Dry P (Op.equal t x y) := Dry.equalIn 9999 t x y h
  cases x <;> cases y <;> try cases h
  case int.int k a k' b =>
    cases op <;> dsimp only [Go.binOp] <;> repeat' first
      | exact Dry.pure _
      | exact Dry.stuck _
      | exact (Fails.runtimePanic _).dry
      | refine Dry.ite ?_ ?_
      | (unfold Op.intArith; exact Dry.pure _)
      | (unfold Op.intCmp; exact Dry.pure _)
      | (unfold Op.intBits; exact Dry.pure _)
      | (unfold Op.intDiv)
      | (unfold Op.shift)
  case string.string a b =>
    cases op <;> dsimp only [Go.binOp, Op.stringOp] <;> repeat' first
      | exact Dry.pure _
      | exact Dry.stuck _
      | exact Dry.unsupported _
      | refine Dry.ite ?_ ?_
  case bool.bool a b => cases op <;> dsimp only [Go.binOp] <;> first | exact Dry.stuck _ | exact heq.bind (fun _ => Dry.pure _)
  case slice.slice a n c b m e => cases op <;> dsimp only [Go.binOp] <;> first | exact Dry.stuck _ | exact heq.bind (fun _ => Dry.pure _)
  case pointer.pointer a b =>
    cases b with
    | some _ => cases h
    | none => cases op <;> cases a <;> dsimp only [Go.binOp] <;> first | exact Dry.stuck _ | exact Dry.unsupported _ | exact heq.bind (fun _ => Dry.pure _)

def convB : Value → Bool
  | .int _ _ => true
  | .slice _ _ _ => true
  | .string _ => true
  | _ => false
theorem Dry.convert (s d : TypeId) (v : Value) (hv : convB v = true) (h : (match P.underlying s, P.underlying d with | some (.int _), some (.int _) => true | _, _ => false) = true) : Dry P (Go.convert s d v) := fun w x w' e => by
  unfold Go.convert at *
  cases hs : P.underlying s with
  | none => rw [hs] at h; cases h
  | some t =>
  cases hu : P.underlying d with
  | none => rw [hs, hu] at h; cases t <;> cases h
  | some u =>
    rw [hs, hu] at h
    cases t
    all_goals try (exact absurd h Bool.false_ne_true)
    cases u
    all_goals try (exact absurd h Bool.false_ne_true)
    rename_i k1 k2
    have hr : ∀ w2, (Go.underlying s).run P w2 = .ok (.int k1) w2 := fun w2 => run_underlying hs w2
    have hr2 : ∀ w2, (Go.underlying d).run P w2 = .ok (.int k2) w2 := fun w2 => run_underlying hu w2
    rw [Sem.run_bind, hr] at e
    simp only [Result.andThen] at e
    rw [Sem.run_bind, hr2] at e
    simp only [Result.andThen] at e
    cases v
    all_goals try (exact absurd hv Bool.false_ne_true)
    case int k n =>
      have hd : Dry P (Conv.intToInt k2 n) := Dry.pure _
      obtain ⟨rfl, h3⟩ := hd _ _ _ e
      exact ⟨rfl, fun w2 => by rw [Sem.run_bind, hr]; simp only [Result.andThen]; rw [Sem.run_bind, hr2]; exact h3 w2⟩
    all_goals cases e

def plain1 : Value → Bool
  | .slice _ _ _ => true
  | .string _ => true
  | _ => false

theorem Dry.len (ts : Array TypeId) (ty : TypeId) (v : Value) (h : plain1 v = true) : Dry P (Builtin.len_ ts ty #[v]) := by
  unfold Builtin.len_
  split
  · rename_i t x h2
    obtain rfl : v = x := by
      have := congrArg Prod.snd h2
      simpa using this
    refine (Dry.underlying t).bind (fun u => ?_)
    cases v <;> try cases h
    all_goals
      cases u <;> dsimp only <;> repeat' first
        | exact Dry.pure _
        | exact Dry.stuck _
        | exact Dry.underlying _
        | refine Dry.bind ?_ (fun _ => ?_)
        | split
  · exact Dry.stuck _

/-! ### an operation: dry, reading -/
def lenArg (c : Call) : Option Operand := match c.callee, c.args.toList with
  | .builtin .len, [x] => some x
  | _, _ => none
theorem lenArg_some {c : Call} {x : Operand} (h : lenArg c = some x) : c = { callee := .builtin .len, args := #[x], argTypes := c.argTypes } := by
  obtain ⟨callee, ⟨args⟩, ts⟩ := c
  unfold lenArg at h
  split at h
  · rename_i y h1 h2
    simp only at h1 h2
    subst h1; subst h2
    cases h; rfl
  · cases h
def dryKind (P : Program) : Op → Bool
  | .move _ | .assign _ | .pick .. | .field .. | .index .. | .indexAddr .. | .extract .. | .slice .. | .unOp .. | .nilCheck _ | .binOp .. => true
  | .fieldAddr s _ f => match P.underlying s with | some (.struct fields) => (match fields[f]? with | some fd => (match P.info? fd.type with | some i => i.size != 0 | none => false) | none => false) | _ => false
  | .convert s d _ => match P.underlying s, P.underlying d with | some (.int _), some (.int _) => true | _, _ => false
  | .call c => (lenArg c).isSome
  | _ => false
def needs : Op → List Operand
  | .nilCheck x => [x]
  | .binOp _ _ x y _ => [x, y]
  | .convert _ _ x => [x]
  | .call c => (lenArg c).toList
  | _ => []
def okVals (ρ : Operand → Value) : Op → Bool
  | .nilCheck x => match ρ x with | .pointer _ => true | _ => false
  | .binOp _ _ x y _ => plain2 (ρ x) (ρ y)
  | .convert _ _ x => convB (ρ x)
  | .call c => match lenArg c with | some x => plain1 (ρ x) | none => true
  | _ => true
/-- Only values come of it. -/
def Vals (P : Program) (s : Sem Next) : Prop := ∀ w n w', s.run P w = .ok n w' → ∃ v, n = .value v
theorem Vals.of (s : Sem Value) : Vals P (do pure (.value (← s))) := fun w n w' e => by
  obtain ⟨y, w1, _, h2⟩ := run_bind_ok e
  simp only [Sem.run_pure, Result.ok.injEq] at h2
  exact ⟨y, h2.1.symm⟩
theorem dry_op (o : Oper) (ρ : Operand → Value) (hk : dryKind P o.op = true) (hv : okVals ρ o.op = true) : Dry P (execOp ρ o) ∧ Vals P (execOp ρ o) := by
  unfold execOp
  cases ho : o.op <;> rw [ho] at hk hv <;> try cases hk
  case move x => exact ⟨Dry.pure _, fun w n w' e => by simp at e; exact ⟨_, e.1.symm⟩⟩
  case assign x => exact ⟨Dry.pure _, fun w n w' e => by simp at e; exact ⟨_, e.1.symm⟩⟩
  case pick c a b => exact ⟨(Dry.asBool _).bind (fun _ => Dry.pure _), fun w n w' e => by
    obtain ⟨y, w1, _, h2⟩ := run_bind_ok e
    simp only [Sem.run_pure, Result.ok.injEq] at h2
    exact ⟨_, h2.1.symm⟩⟩
  case nilCheck x =>
    dsimp only [okVals] at hv ⊢
    cases hx : ρ x <;> rw [hx] at hv <;> try cases hv
    case pointer a =>
      cases a with
      | none => exact ⟨(Fails.runtimePanic _).dry, fun w n w' e => (Fails.runtimePanic _ _ _ _ e).elim⟩
      | some a => exact ⟨Dry.pure _, fun w n w' e => by simp at e; exact ⟨_, e.1.symm⟩⟩
  case binOp op t x y yt => exact ⟨Dry.bind ((Dry.eqGuard _ _ _ _ _ _ hv).bind (fun _ => Dry.binOp _ _ _ _ hv)) (fun _ => Dry.pure _), Vals.of _⟩
  case unOp op t x => exact ⟨(Dry.unary _ _).bind (fun _ => Dry.pure _), Vals.of _⟩
  case convert s d x =>
    dsimp only [okVals] at hv
    exact ⟨(Dry.convert s d _ hv hk).bind (fun _ => Dry.pure _), Vals.of _⟩
  case slice t x lo hi mx => exact ⟨(Dry.sliceAt _ _ _ _ _).bind (fun _ => Dry.pure _), Vals.of _⟩
  case fieldAddr s x f => exact ⟨(Dry.fieldAt s _ f hk).bind (fun _ => Dry.pure _), Vals.of _⟩
  case field t x f => exact ⟨(Dry.field _ _ _).bind (fun _ => Dry.pure _), Vals.of _⟩
  case indexAddr t x i => exact ⟨(Dry.indexAt _ _ _).bind (fun _ => Dry.pure _), Vals.of _⟩
  case index t x i => exact ⟨(Dry.index _ _ _).bind (fun _ => Dry.pure _), Vals.of _⟩
  case extract t i => exact ⟨(Dry.extract _ _).bind (fun _ => Dry.pure _), Vals.of _⟩
  case call c =>
    cases hc : lenArg c with
    | none => dsimp only [dryKind] at hk; rw [hc] at hk; cases hk
    | some x =>
      have hp : plain1 (ρ x) = true := by dsimp only [okVals] at hv; rw [hc] at hv; exact hv
      have e0 := lenArg_some hc
      have e1 : (do let d ← resolve ρ c o.type; invoke d.target d.args : Sem Next) = (do pure (.value (← Builtin.len_ c.argTypes o.type #[ρ x])) : Sem Next) := by
        rw [e0]
        simp only [resolve, invoke, builtin, List.map_toArray, List.map_cons, List.map_nil]
        rfl
      dsimp only
      rw [e1]
      exact ⟨(Dry.len _ _ _ hp).bind (fun _ => Dry.pure _), Vals.of _⟩

/-! ### reading -/
theorem Damp.loadCellsFrom (a : Addr) : ∀ (n i : Nat) (acc : Array Value), Damp P (Go.loadCellsFrom a i n acc)
  | 0, _, _ => Damp.pure _
  | n + 1, i, acc => by
    unfold Go.loadCellsFrom
    refine Damp.bind ?_ (fun v => Damp.loadCellsFrom a n (i + 1) _)
    intro w x w' e
    unfold Go.load at e
    simp only [Sem.run] at e
    split at e
    · simp only [Result.ok.injEq] at e; exact e.2.symm
    · split at e
      · simp only [Result.ok.injEq] at e; exact e.2.symm
      · cases e
theorem Damp.load1 (a : Addr) : Damp P (Go.load a) := by
  intro w x w' e
  unfold Go.load at e
  simp only [Sem.run] at e
  split at e
  · simp only [Result.ok.injEq] at e; exact e.2.symm
  · split at e
    · simp only [Result.ok.injEq] at e; exact e.2.symm
    · cases e
theorem Damp.loadAt (t : TypeId) (x : Value) : Damp P (Instr.loadAt t x) := by
  unfold Instr.loadAt
  refine (Dry.sureAddr x).damp.bind (fun a => ?_)
  unfold Go.loadVar
  refine (Dry.isAgg t).damp.bind (fun b => ?_)
  cases b
  · exact Damp.load1 a
  · exact (Dry.sizeOf t).damp.bind (fun n => (Damp.loadCellsFrom a _ _ _).bind (fun _ => Damp.pure _))
def dampKind (P : Program) : Op → Bool
  | .load _ _ => true
  | op => dryKind P op
theorem damp_op (o : Oper) (ρ : Operand → Value) (hk : dampKind P o.op = true) (hv : okVals ρ o.op = true) : Damp P (execOp ρ o) ∧ Vals P (execOp ρ o) := by
  cases ho : o.op
  case load t a =>
    have e1 : execOp ρ o = (do pure (.value (← Instr.loadAt t (ρ a))) : Sem Next) := by unfold execOp; rw [ho]
    rw [e1]
    exact ⟨(Damp.loadAt _ _).bind (fun _ => Damp.pure _), Vals.of _⟩
  all_goals
    have h : dryKind P o.op = true := by rw [ho] at hk ⊢; exact hk
    exact ⟨(dry_op o ρ h hv).1.damp, (dry_op o ρ h hv).2⟩

/-! ### walking on: nothing panics, nothing is let out -/
/-- Neither a panic nor an outgrown end is let. -/
def Safe (Q : Exit → Act → World → Prop) : Prop := (∀ c a w, ¬ Q (.panic c) a w) ∧ ∀ a w, ¬ Q .outgrown a w
theorem Safe.then {K : Act → World → Prop} {Q : Exit → Act → World → Prop} (h : Safe Q) : Safe (Exit.then K Q) := h
theorem Safe.inBlock {id : Nat} {Q : Exit → Act → World → Prop} (h : Safe Q) : Safe (Exit.inBlock id Q) := h
/-- A call that answers, and how. -/
def Rets (R : Value → World → Prop) : Ending → World → Prop
  | .returned v, w => R v w
  | _, _ => False
theorem Rets.use {f : FuncId} {args : Array Value} {w : World} {R : Value → World → Prop} {X : Ending → World → Prop} (h : Calls P f args w (Rets R)) (hx : ∀ v w', R v w' → X (.returned v) w') : Calls P f args w X :=
  Calls.mono h fun e w' he => by
    cases e with
    | returned v => exact hx v w' he
    | _ => exact he.elim
theorem Safe.body {fn : Func} {R : Value → World → Prop} : Safe (bodyPost P fn (Rets R)) := ⟨fun _ _ _ h => h.2, fun _ _ h => h⟩

section
variable {ops : Array Oper} {Q : Exit → Act → World → Prop} {md : Region.Mode}
/-- The operation is walked (or passed over) here, with this value, and the world stays. -/
def Here (P : Program) (ops : Array Oper) (w : World) (o : Oper) (v : Value) (a : Act) : Prop :=
  (Region.wanted o (yielded ops a.tmps) = true ∧ (execOp a.eval o).run P w = .ok (.value v) w) ∨ (Region.wanted o (yielded ops a.tmps) = false ∧ v = undef)
theorem Here.wpOp {w : World} {i : Nat} {o : Oper} {v : Value} {a : Act} (hi : ops[i]? = some o) (hy : Here P ops w o v a) {K : Act → World → Prop} (h : K (a.put o.dst v) w) : wpOp P ops Q i K a w := by
  unfold Go.wpOp
  simp only [hi]
  rcases hy with ⟨h1, h2⟩ | ⟨h1, rfl⟩
  · rw [if_pos h1]; exact .inl (by unfold Oper.wp; rw [h2]; exact h)
  · rw [if_neg (by simp [h1])]; exact h
theorem Here.of_same {w : World} {o : Oper} {v : Value} {a a' : Act} (hy : Here P ops w o v a) (he : execOp a'.eval o = execOp a.eval o)
    (hw : Region.wanted o (yielded ops a'.tmps) = Region.wanted o (yielded ops a.tmps)) : Here P ops w o v a' := by
  unfold Here at *
  rw [he, hw]; exact hy
/-- What an operation's walk gives where all that is let is an answer. -/
theorem wpOp_ok {i : Nat} {o : Oper} {K : Act → World → Prop} {a : Act} {w : World} (hQ : Safe Q) (hi : ops[i]? = some o) (h : wpOp P ops Q i K a w) (hw : Region.wanted o (yielded ops a.tmps) = true) : o.wp P a w K Q := by
  unfold wpOp at h
  simp only [hi, hw, if_true] at h
  rcases h with h | ⟨_, x, y, h⟩
  · exact h
  · exact (hQ.2 _ _ h).elim
theorem upon_vals {o : Oper} {K : Act → World → Prop} {a : Act} {w : World} (hQ : Safe Q) (hv : Vals P (execOp a.eval o)) (h : o.wp P a w K Q) : ∃ v w', (execOp a.eval o).run P w = .ok (.value v) w' ∧ K (a.put o.dst v) w' := by
  unfold Oper.wp at h
  cases hr : (execOp a.eval o).run P w with
  | ok n w' =>
    obtain ⟨v, rfl⟩ := hv _ _ _ hr
    rw [hr] at h
    exact ⟨v, w', rfl, h⟩
  | halt z w' =>
    rw [hr] at h
    cases z <;> first | exact h.elim | exact (hQ.1 _ _ _ h).elim
theorem damp_here {i : Nat} {o : Oper} {K : Act → World → Prop} {a : Act} {w : World} (hQ : Safe Q) (hi : ops[i]? = some o) (hk : dampKind P o.op = true) (hv : Region.wanted o (yielded ops a.tmps) = true → okVals a.eval o.op = true) (h : wpOp P ops Q i K a w) :
    ∃ v, Here P ops w o v a ∧ K (a.put o.dst v) w := by
  cases hw : Region.wanted o (yielded ops a.tmps) with
  | true =>
    obtain ⟨v, w', hr, hK⟩ := upon_vals hQ (damp_op o a.eval hk (hv hw)).2 (wpOp_ok hQ hi h hw)
    obtain rfl := (damp_op o a.eval hk (hv hw)).1 _ _ _ hr
    exact ⟨v, .inl ⟨hw, hr⟩, hK⟩
  | false =>
    unfold wpOp at h
    simp only [hi, hw, Bool.false_eq_true, if_false] at h
    exact ⟨undef, .inr ⟨hw, rfl⟩, h⟩
theorem dry_yields {i : Nat} {o : Oper} {K : Act → World → Prop} {a : Act} {w : World} (hQ : Safe Q) (hi : ops[i]? = some o) (hk : dryKind P o.op = true) (hv : Region.wanted o (yielded ops a.tmps) = true → okVals a.eval o.op = true) (h : wpOp P ops Q i K a w) :
    ∃ v, Yields P ops o v a ∧ K (a.put o.dst v) w := by
  cases hw : Region.wanted o (yielded ops a.tmps) with
  | true =>
    obtain ⟨v, w', hr, hK⟩ := upon_vals hQ (dry_op o a.eval hk (hv hw)).2 (wpOp_ok hQ hi h hw)
    obtain ⟨rfl, h2⟩ := (dry_op o a.eval hk (hv hw)).1 _ _ _ hr
    exact ⟨v, .inl ⟨hw, h2⟩, hK⟩
  | false =>
    unfold wpOp at h
    simp only [hi, hw, Bool.false_eq_true, if_false] at h
    exact ⟨undef, .inr ⟨hw, rfl⟩, h⟩
/-- A fact on the frame that all that comes leaves as it is holds now, if it holds at the end. -/
theorem wpOps_get {φ : Act → Prop} (hQ : Safe Q) : ∀ (r : List Nat) (a : Act) (w : World), (∀ i o, i ∈ r → ops[i]? = some o → ∀ a v, φ (a.put o.dst v) → φ a) → (∀ (a : Act) d, φ { a with defers := d } → φ a) →
    wpOps P ops Q r a w → (∀ a w, Q .normal a w → φ a) → φ a
  | [], a, w, _, _, h, hφ => hφ a w h
  | i :: r, a, w, hp, hd, h, hφ => by
    have ih := fun a w => wpOps_get hQ r a w (fun j o hj => hp j o (List.mem_cons_of_mem _ hj)) hd
    rw [wpOps_cons] at h
    cases hi : ops[i]? with
    | none => unfold wpOp at h; simp only [hi] at h; exact ih _ _ h hφ
    | some o =>
      have hp0 := hp i o List.mem_cons_self hi
      cases hw : Region.wanted o (yielded ops a.tmps) with
      | false =>
        unfold wpOp at h
        simp only [hi, hw, Bool.false_eq_true, if_false] at h
        exact hp0 _ _ (ih _ _ h hφ)
      | true =>
        have h2 := wpOp_ok hQ hi h hw
        unfold Oper.wp at h2
        cases hr : (execOp a.eval o).run P w with
        | halt z w' =>
          rw [hr] at h2
          cases z <;> first | exact h2.elim | exact (hQ.1 _ _ _ h2).elim
        | ok n w' =>
          rw [hr] at h2
          cases n with
          | value v => exact hp0 _ _ (ih _ _ h2 hφ)
          | skip => exact hp0 _ _ (ih _ _ h2 hφ)
          | defer d => exact hd _ _ (hp0 _ _ (ih _ _ h2 hφ))
          | enter f args =>
            obtain ⟨e, w2, fr, he, _⟩ := h2 []
            cases e with
            | returned v => exact hp0 _ _ (ih _ _ he hφ)
            | panicked c => exact (hQ.1 _ _ _ he).elim
            | outgrown => obtain ⟨x, y, he⟩ := he; exact (hQ.2 _ _ he).elim
          | row row args =>
            obtain ⟨v, w2, he, _⟩ := h2 default []
            exact hp0 _ _ (ih _ _ he hφ)
          | _ => exact h2.elim

/-! ### one order for all -/
/-- d waits for i, at once or through others. -/
def waits (md : Region.Mode) (ops : Array Oper) (i : Nat) : Nat → Nat → Bool
  | 0, _ => false
  | f + 1, d => match ops[d]? with
    | some o => o.after.any fun e => Region.binds md e && (e.on == i || waits md ops i f e.on)
    | none => false
/-- All that is listed has what it waits for listed. -/
def Shut (md : Region.Mode) (ops : Array Oper) (l : Array Bool) : Prop := ∀ j o, ops[j]? = some o → l.getD j false = true → ∀ e ∈ o.after, Region.binds md e = true → l.getD e.on false = true
theorem Shut.start (n : Nat) : Shut md ops (Array.replicate n false) := fun j o _ h => by
  exfalso
  have : (Array.replicate n false).getD j false = false := by
    simp only [Array.getD]
    split <;> simp
  rw [this] at h; cases h
theorem getD_set_cases {l : Array Bool} {i j : Nat} (h : (l.setIfInBounds i true).getD j false = true) : j = i ∨ l.getD j false = true := by
  by_cases hij : i = j
  · exact .inl hij.symm
  · rw [getD_set_ne false hij] at h; exact .inr h
theorem Shut.set {l : Array Bool} {i : Nat} (h : Shut md ops l) (hi : i ∈ Region.ready md ops l) : Shut md ops (l.setIfInBounds i true) := fun j o ho hj e he hb => by
  rcases getD_set_cases hj with rfl | hj
  · obtain ⟨_, o', ho', hall⟩ := mem_ready.1 hi
    rw [ho] at ho'; cases ho'
    exact getD_set_true (hall e he hb)
  · exact getD_set_true (h j o ho hj e he hb)
theorem ready_lt {l : Array Bool} {i : Nat} (hi : i ∈ Region.ready md ops l) : i < l.size := by
  have h0 := (mem_ready.1 hi).1
  rcases Nat.lt_or_ge i l.size with h | h
  · exact h
  · have : ¬ i < l.size := by omega
    simp [Array.getD, this] at h0
theorem listed_false {l : Array Bool} {i : Nat} (hi : i ∈ Region.ready md ops l) : l.getD i false = false := by
  have h0 := (mem_ready.1 hi).1
  have := ready_lt hi
  simp [Array.getD, this] at h0 ⊢
  exact h0
/-- What is listed does not wait for what is not. -/
theorem not_waits {l : Array Bool} {i : Nat} (hs : Shut md ops l) (hi : l.getD i false = false) : ∀ f d, l.getD d false = true → waits md ops i f d = false
  | 0, _, _ => rfl
  | f + 1, d, hd => by
    unfold waits
    cases ho : ops[d]? with
    | none => rfl
    | some o =>
      simp only
      rw [Array.any_eq_false]
      intro k hk hc
      rw [Bool.and_eq_true, Bool.or_eq_true] at hc
      have h1 := hs d o ho hd o.after[k] (Array.getElem_mem hk) hc.1
      rcases hc.2 with h2 | h2
      · rw [beq_iff_eq] at h2
        rw [h2, hi] at h1; cases h1
      · rw [not_waits hs hi f _ h1] at h2; cases h2
theorem ready_not_waits {l : Array Bool} {i k : Nat} (hs : Shut md ops l) (hi : l.getD i false = false) (hk : k ∈ Region.ready md ops l) (f : Nat) : waits md ops i f k = false := by
  cases f with
  | zero => rfl
  | succ f =>
    obtain ⟨_, o, ho, hall⟩ := mem_ready.1 hk
    unfold waits
    simp only [ho]
    rw [Array.any_eq_false]
    intro j hj hc
    rw [Bool.and_eq_true, Bool.or_eq_true] at hc
    have h1 := hall o.after[j] (Array.getElem_mem hj) hc.1
    rcases hc.2 with h2 | h2
    · rw [beq_iff_eq] at h2
      rw [h2, hi] at h1; cases h1
    · rw [not_waits hs hi f _ h1] at h2; cases h2

theorem wpOp_get {φ : Act → Prop} (hQ : Safe Q) {i : Nat} {K : Act → World → Prop} {a : Act} {w : World} (hp : ∀ o, ops[i]? = some o → ∀ a v, φ (a.put o.dst v) → φ a) (hd : ∀ (a : Act) d, φ { a with defers := d } → φ a)
    (h : wpOp P ops Q i K a w) (hK : ∀ a w, K a w → φ a) : φ a := by
  cases hi : ops[i]? with
  | none => unfold wpOp at h; simp only [hi] at h; exact hK _ _ h
  | some o =>
    have hp0 := hp o hi
    cases hw : Region.wanted o (yielded ops a.tmps) with
    | false =>
      unfold wpOp at h
      simp only [hi, hw, Bool.false_eq_true, if_false] at h
      exact hp0 _ _ (hK _ _ h)
    | true =>
      have h2 := wpOp_ok hQ hi h hw
      unfold Oper.wp at h2
      cases hr : (execOp a.eval o).run P w with
      | halt z w' =>
        rw [hr] at h2
        cases z <;> first | exact h2.elim | exact (hQ.1 _ _ _ h2).elim
      | ok n w' =>
        rw [hr] at h2
        cases n with
        | value v => exact hp0 _ _ (hK _ _ h2)
        | skip => exact hp0 _ _ (hK _ _ h2)
        | defer d => exact hd _ _ (hp0 _ _ (hK _ _ h2))
        | enter f args =>
          obtain ⟨e, w2, fr, he, _⟩ := h2 []
          cases e with
          | returned v => exact hp0 _ _ (hK _ _ he)
          | panicked c => exact (hQ.1 _ _ _ he).elim
          | outgrown => obtain ⟨x, y, he⟩ := he; exact (hQ.2 _ _ he).elim
        | row row args =>
          obtain ⟨v, w2, he, _⟩ := h2 default []
          exact hp0 _ _ (hK _ _ he)
        | _ => exact h2.elim
/-- In whatever order: behind each operation of T the world meets S. -/
def wpAnyT (P : Program) (md : Region.Mode) (ops : Array Oper) (Q : Exit → Act → World → Prop) (S : World → Prop) (T : List Nat) : Nat → Array Bool → Act → World → Prop
  | 0, l, a, w => Region.ready md ops l = [] ∧ Q .normal a w
  | fuel + 1, l, a, w =>
    (Region.ready md ops l = [] → Q .normal a w) ∧
    ∀ i ∈ Region.ready md ops l, wpOp P ops Q i (fun a' w' => (T.contains i = true → S w') ∧ wpAnyT P md ops Q S T fuel (l.setIfInBounds i true) a' w') a w
variable {S : World → Prop} {T : List Nat}
theorem wpAnyT_any : ∀ (fuel : Nat) (l : Array Bool) (a : Act) (w : World), wpAnyT P md ops Q S T fuel l a w → wpAny P md ops Q fuel l a w
  | 0, _, _, _, h => h
  | fuel + 1, _, _, _, h => ⟨h.1, fun i hi => wpOp_mono (fun a w hh => wpAnyT_any fuel _ a w hh.2) (h.2 i hi)⟩
theorem wpAny_get {φ : Act → Prop} (hQ : Safe Q) (hd : ∀ (a : Act) d, φ { a with defers := d } → φ a) (hφ : ∀ a w, Q .normal a w → φ a) : ∀ (fuel : Nat) (l : Array Bool) (a : Act) (w : World),
    (∀ j o, ops[j]? = some o → l.getD j true = false → ∀ a v, φ (a.put o.dst v) → φ a) → wpAnyT P md ops Q S T fuel l a w → φ a
  | 0, l, a, w, _, h => hφ a w h.2
  | fuel + 1, l, a, w, hp, h => by
    cases hr : Region.ready md ops l with
    | nil => exact hφ a w (h.1 hr)
    | cons i rs =>
      have hi : i ∈ Region.ready md ops l := by rw [hr]; exact List.mem_cons_self
      refine wpOp_get hQ (fun o ho => hp i o ho (mem_ready.1 hi).1) hd (h.2 i hi) (fun a w hh => wpAny_get hQ hd hφ fuel _ a w (fun j o ho hj => hp j o ho ?_) hh.2)
      by_cases hij : i = j
      · subst hij; exact (mem_ready.1 hi).1
      · rw [getD_set_ne true hij] at hj; exact hj
/-- Its operands are as they must be, if it is walked. -/
def Fits (ops : Array Oper) (o : Oper) (a : Act) : Prop := Region.wanted o (yielded ops a.tmps) = true → okVals a.eval o.op = true
theorem okVals_congr {ρ ρ' : Operand → Value} (op : Op) (h : ∀ x ∈ op.operands, ρ x = ρ' x) : okVals ρ op = okVals ρ' op := by
  cases op <;> try rfl
  case nilCheck x => dsimp only [okVals]; rw [h x (by simp [Op.operands])]
  case convert s d x => dsimp only [okVals]; rw [h x (by simp [Op.operands])]
  case binOp op t x y yt => dsimp only [okVals]; rw [h x (by simp [Op.operands]), h y (by simp [Op.operands])]
  case call c =>
    dsimp only [okVals]
    cases hc : lenArg c with
    | none => rfl
    | some x =>
      have e0 := lenArg_some hc
      simp only
      rw [h x (by rw [e0]; simp [Op.operands, Call.operands])]
/-- It takes any values. -/
def dull : Op → Bool
  | .move _ | .assign _ | .pick _ _ _ => true
  | _ => false
/-- What must stand as it was for an operation's operands to fit. -/
def looksF (ops : Array Oper) (o : Oper) : List Tmp := if dull o.op then [] else o.looksAt ops
theorem Fits.put0 {o : Oper} {a : Act} {d : Option Tmp} {v : Value} (hd : ∀ t, d = some t → t ∉ o.looksAt ops) (h : Fits ops o (a.put d v)) : Fits ops o a := fun hw => by
  have h1 := h (by rw [wanted_put o a d v hd]; exact hw)
  rw [← h1]
  refine (okVals_congr o.op (fun x hx => ?_)).symm
  exact Act.eval_put fun t ht hxt => hd t ht (by
    subst hxt
    exact List.mem_append_left _ (List.mem_filterMap.2 ⟨.tmp t, by simpa using hx, rfl⟩))
theorem Fits.put {o : Oper} {a : Act} {d : Option Tmp} {v : Value} (hd : ∀ t, d = some t → t ∉ looksF ops o) (h : Fits ops o (a.put d v)) : Fits ops o a := by
  unfold looksF at hd
  by_cases hu : dull o.op = true
  · intro _
    cases ho : o.op <;> rw [ho] at hu <;> first | rfl | cases hu
  · rw [if_neg hu] at hd
    exact Fits.put0 hd h
theorem Fits.defers {o : Oper} {a : Act} {d : List Deferred} (h : Fits ops o { a with defers := d }) : Fits ops o a := fun hw => by
  have h1 := h hw
  rw [← h1]
  exact okVals_congr o.op (fun x _ => by cases x <;> rfl)
/-- What an operation looks at is laid by what it waits for alone. -/
def prodB (md : Region.Mode) (ops : Array Oper) : Bool := (List.range ops.size).all fun k => match ops[k]? with
  | some o => (List.range ops.size).all fun j => match ops[j]? with
    | some p => (match p.dst with | some d => !(looksF ops o).contains d || waits md ops j ops.size k | none => true)
    | none => true
  | none => true
theorem prodB_spec (h : prodB md ops = true) {k j : Nat} {o p : Oper} (hk : ops[k]? = some o) (hj : ops[j]? = some p) (hw : waits md ops j ops.size k = false) : ∀ t, p.dst = some t → t ∉ looksF ops o := fun t ht hm => by
  unfold prodB at h
  have h1 := List.all_eq_true.1 h k (List.mem_range.2 (Array.getElem?_eq_some_iff.1 hk).1)
  rw [hk] at h1
  have h2 := List.all_eq_true.1 h1 j (List.mem_range.2 (Array.getElem?_eq_some_iff.1 hj).1)
  rw [hj] at h2
  simp only [ht] at h2
  rw [hw, Bool.or_false, Bool.not_eq_true'] at h2
  rw [List.contains_iff_mem.2 hm] at h2
  cases h2
theorem getD_false {l : Array Bool} {j : Nat} (hl : l.getD j true = false) : l.getD j false = false := by
  rcases Nat.lt_or_ge j l.size with h' | h'
  · simp [Array.getD, h'] at hl ⊢; exact hl
  · have : ¬ j < l.size := by omega
    simp [Array.getD, this]
/-- A fact on what an operation looks at, which holds at the end, holds where it is ready. -/
theorem fact_any {φ : Act → Prop} {fuel : Nat} {l : Array Bool} {a : Act} {w : World} {k : Nat} {o : Oper} (hQ : Safe Q) (hP : prodB md ops = true) (hput : ∀ (d : Option Tmp) (a : Act) v, (∀ t, d = some t → t ∉ looksF ops o) → φ (a.put d v) → φ a) (hdef : ∀ (a : Act) d, φ { a with defers := d } → φ a)
    (hφ : ∀ a w, Q .normal a w → φ a) (hs : Shut md ops l) (hk : ops[k]? = some o) (hr : k ∈ Region.ready md ops l) (h : wpAnyT P md ops Q S T fuel l a w) : φ a :=
  wpAny_get hQ hdef hφ fuel l a w (fun _ p hj hl a v => hput p.dst a v (prodB_spec hP hk hj (ready_not_waits hs (getD_false hl) hr _))) h
/-- The same with the operation itself behind the walk. -/
theorem fact_op {φ : Act → Prop} {fuel : Nat} {l : Array Bool} {a : Act} {w : World} {k : Nat} {o : Oper} {B : World → Prop} (hQ : Safe Q) (hP : prodB md ops = true) (hput : ∀ (d : Option Tmp) (a : Act) v, (∀ t, d = some t → t ∉ looksF ops o) → φ (a.put d v) → φ a) (hdef : ∀ (a : Act) d, φ { a with defers := d } → φ a)
    (hφ : ∀ a w, Q .normal a w → φ a) (hs : Shut md ops l) (hk : ops[k]? = some o) (hr : k ∈ Region.ready md ops l) (h : wpOp P ops Q k (fun a w => B w ∧ wpAnyT P md ops Q S T fuel (l.setIfInBounds k true) a w) a w) : φ a := by
  refine wpOp_get hQ (fun p hp a v => ?_) hdef h (fun a' w' hh => ?_)
  · rw [hk] at hp
    cases hp
    exact hput _ a v (prodB_spec hP hk hk (ready_not_waits hs (listed_false hr) hr _))
  · refine wpAny_get hQ hdef hφ fuel _ a' w' (fun j p hj hl a v => hput p.dst a v (prodB_spec hP hk hj ?_)) hh.2
    have hjf : l.getD j false = false := by
      by_cases hij : k = j
      · subst hij; exact listed_false hr
      · rw [getD_set_ne true hij] at hl; exact getD_false hl
    exact ready_not_waits hs hjf hr _
/-- The operation yields v in every world that meets S'. -/
def Stable (P : Program) (ops : Array Oper) (S' : World → Prop) (o : Oper) (v : Value) (a : Act) : Prop := ∀ w, S' w → Here P ops w o v a
theorem Stable.of_same {S' : World → Prop} {o : Oper} {v : Value} {a a' : Act} (hy : Stable P ops S' o v a) (he : execOp a'.eval o = execOp a.eval o)
    (hw : Region.wanted o (yielded ops a'.tmps) = Region.wanted o (yielded ops a.tmps)) : Stable P ops S' o v a' := fun w h => (hy w h).of_same he hw
theorem wpOp_putS {S' : World → Prop} {j : Nat} {oi oj : Oper} {v : Value} (hQ : Safe Q) (hj : ops[j]? = some oj) (hap : oi.apart ops oj = true)
    (hsi : ∀ cs b, oi.op ≠ .select cs b) (hsj : ∀ cs b, oj.op ≠ .select cs b) {K : Act → World → Prop} {a : Act} {w : World}
    (hy : Stable P ops S' oi v a) (h : wpOp P ops Q j K (a.put oi.dst v) w) :
    wpOp P ops Q j (fun a' w' => Stable P ops S' oi v a' ∧ K (a'.put oi.dst v) w') a w := by
  obtain ⟨h1, h2, h3⟩ := Oper.apart_spec hap
  have keep : ∀ (a : Act), Stable P ops S' oi v a → ∀ u, Stable P ops S' oi v (a.put oj.dst u) := fun a hy u =>
    hy.of_same (execOp_put oi hsi a oj.dst u h3) (wanted_put oi a oj.dst u h3)
  have keepD : ∀ d, Stable P ops S' oi v { a with defers := d :: a.defers } := fun d => hy.of_same rfl rfl
  unfold wpOp at *
  simp only [hj] at *
  rw [wanted_put oj a oi.dst v h1] at h
  split
  · rename_i hw
    simp only [hw, if_true] at h
    rcases h with h | ⟨_, x, y, hlets⟩
    case inr => exact (hQ.2 _ _ hlets).elim
    refine .inl ?_
    unfold Oper.wp at *
    rw [execOp_put oj hsj a oi.dst v h1] at h
    generalize (execOp a.eval oj).run P w = r at *
    cases r with
    | ok n w' =>
      cases n <;> simp only [Oper.upon] at h ⊢
      case value u => exact ⟨keep a hy u, by rw [← Act.put_comm a v u h2]; exact h⟩
      case skip => exact ⟨keep a hy _, by rw [← Act.put_comm a v undef h2]; exact h⟩
      case defer d =>
        refine ⟨keep _ (keepD d) _, ?_⟩
        rw [← Act.put_comm _ v undef h2, ← Act.put_defers]
        exact h
      case enter f args =>
        refine Calls.mono h fun e w'' he => ?_
        cases e with
        | returned u => exact ⟨keep a hy u, by rw [← Act.put_comm a v u h2]; exact he⟩
        | panicked c => exact (hQ.1 _ _ _ he).elim
        | outgrown => exact he
      case row row args => exact Rows.mono h fun u w'' he => ⟨keep a hy u, by rw [← Act.put_comm a v u h2]; exact he⟩
    | halt x w' =>
      cases x <;> simp only [Oper.upon] at h ⊢
      case panic u => exact (hQ.1 _ _ _ h).elim
  · rename_i hw
    simp only [hw] at h
    exact ⟨keep a hy _, by rw [← Act.put_comm a v undef h2]; exact h⟩
/-- An operation may come first, where all that may come ahead of it only reads, or keeps what it stands on. -/
theorem first_ {S' : World → Prop} {i : Nat} {oi : Oper} {v : Value} (hQ : Safe Q) (hP : prodB md ops = true) (hφ : ∀ (k : Nat) (o : Oper), ops[k]? = some o → ∀ a w, Q .normal a w → Fits ops o a) (hi : ops[i]? = some oi) (hsel : Region.noSelect ops = true) (hiT : T.contains i = false) :
    ∀ (fuel : Nat) (l : Array Bool) (a : Act) (w : World), Shut md ops l → S' w →
      (∀ j oj, ops[j]? = some oj → j ≠ i → l.getD j true = false → (∀ e ∈ oj.after, Region.binds md e = true → e.on ≠ i) → oi.apart ops oj = true) →
      (∀ j oj, ops[j]? = some oj → j ≠ i → l.getD j true = false → waits md ops i ops.size j = false → dampKind P oj.op = true ∨ ∀ w, (T.contains j = true → S w) → S' w) →
      i ∈ Region.ready md ops l → Stable P ops S' oi v a →
      wpAnyT P md ops Q S T fuel (l.setIfInBounds i true) (a.put oi.dst v) w → wpAnyT P md ops Q S T (fuel + 1) l a w := by
  intro fuel
  induction fuel with
  | zero =>
    intro l a w _ hS _ _ hr hy H
    refine ⟨fun h => (by rw [h] at hr; cases hr), fun j hj => ?_⟩
    by_cases hji : j = i
    · subst hji; exact (hy w hS).wpOp hi ⟨fun h => (by rw [hiT] at h; cases h), H⟩
    · have := ready_mono hj hji
      rw [H.1] at this
      cases this
  | succ fuel ih =>
    intro l a w hs hS hfree hquiet hr hy H
    refine ⟨fun h => (by rw [h] at hr; cases hr), fun k hk => ?_⟩
    by_cases hki : k = i
    · subst hki; exact (hy w hS).wpOp hi ⟨fun h => (by rw [hiT] at h; cases h), H⟩
    · have hk2 := ready_mono hk hki
      have h1 := H.2 k hk2
      obtain ⟨hkun, ok, hok, hall⟩ := mem_ready.1 hk
      have hif := listed_false hr
      have hnot : ∀ e ∈ ok.after, Region.binds md e = true → e.on ≠ i := fun e he hb heq => by
        have h1 := hall e he hb
        rw [heq, hif] at h1
        cases h1
      have hap := hfree k ok hok hki hkun hnot
      obtain ⟨p1, p2, p3⟩ := Oper.apart_spec hap
      have hsi := fun cs b => Region.noSelect_spec hsel i oi cs b hi
      have hsk := fun cs b => Region.noSelect_spec hsel k ok cs b hok
      have hun : ∀ j, (l.setIfInBounds k true).getD j true = false → l.getD j true = false := fun j hj => by
        by_cases hkj : k = j
        · subst hkj; exact hkun
        · rw [getD_set_ne true hkj] at hj; exact hj
      have next : ∀ a' w', S' w' → Stable P ops S' oi v a' → wpAnyT P md ops Q S T fuel ((l.setIfInBounds i true).setIfInBounds k true) (a'.put oi.dst v) w' → wpAnyT P md ops Q S T (fuel + 1) (l.setIfInBounds k true) a' w' := fun a' w' hS' hy' hh => by
        refine ih (l.setIfInBounds k true) a' w' (hs.set hk) hS' (fun j oj hj hji hl => hfree j oj hj hji (hun j hl)) (fun j oj hj hji hl => hquiet j oj hj hji (hun j hl)) (ready_mono hr (Ne.symm hki)) hy' ?_
        rw [Array.setIfInBounds_comm _ _ hki]
        exact hh
      rcases hquiet k ok hok hki hkun (ready_not_waits hs hif hk _) with hdk | hkeep
      · have hfit : Fits ops ok (a.put oi.dst v) := fact_any hQ hP (fun d a v hd => Fits.put hd) (fun a d => Fits.defers) (hφ k ok hok) (hs.set hr) hok hk2 H
        obtain ⟨u, hyk, hT, hK⟩ := damp_here hQ hok hdk hfit h1
        have hyk' : Here P ops w ok u a := hyk.of_same (execOp_put ok hsk a oi.dst v p1).symm (wanted_put ok a oi.dst v p1).symm
        refine hyk'.wpOp hok ⟨hT, next _ _ hS (hy.of_same (execOp_put oi hsi a ok.dst u p3) (wanted_put oi a ok.dst u p3)) ?_⟩
        rw [Act.put_comm a u v (fun d hd hd2 => p2 d hd2 hd)]
        exact hK
      · exact wpOp_mono (fun a' w' hh => ⟨hh.2.1, next a' w' (hkeep w' hh.2.1) hh.1 hh.2.2⟩) (wpOp_putS hQ hok hap hsi hsk hy h1)

/-! ### what is held: cells that all that comes ahead of a load keeps -/
def Cells (L : List (Addr × Value)) (w : World) : Prop := ∀ p ∈ L, w.cell? p.1 = some p.2
/-- A load of one of the cells. -/
def HeldAt (ops : Array Oper) (L : List (Addr × Value)) (o : Oper) (k : Nat) (a : Act) : Prop := Region.wanted o (yielded ops a.tmps) = true → match o.op with
  | .load _ x => match L[k]? with
    | some p => a.eval x = .pointer (some p.1)
    | none => False
  | _ => True
def HeldAll (ops : Array Oper) (L : List (Addr × Value)) (a : Act) : List (Nat × Nat) → Prop
  | [] => True
  | q :: r => (match ops[q.1]? with | some o => HeldAt ops L o q.2 a | none => False) ∧ HeldAll ops L a r
theorem HeldAll.get {L : List (Addr × Value)} {a : Act} : ∀ {H : List (Nat × Nat)}, HeldAll ops L a H → ∀ q ∈ H, ∀ o, ops[q.1]? = some o → HeldAt ops L o q.2 a
  | [], _, _, hq, _, _ => by cases hq
  | x :: r, h, q, hq, o, ho => by
    rcases List.mem_cons.1 hq with rfl | hq
    · have h1 := h.1
      rw [ho] at h1
      exact h1
    · exact HeldAll.get h.2 q hq o ho
theorem HeldAt.put0 {L : List (Addr × Value)} {o : Oper} {k : Nat} (d : Option Tmp) (a : Act) (v : Value) (hd : ∀ t, d = some t → t ∉ o.looksAt ops) (h : HeldAt ops L o k (a.put d v)) : HeldAt ops L o k a := fun hw => by
  have h1 := h (by rw [wanted_put o a d v hd]; exact hw)
  cases ho : o.op <;> simp only [ho] at h1 ⊢
  case load t x =>
    cases hk : L[k]? <;> simp only [hk] at h1 ⊢
    rw [← h1]
    exact (Act.eval_put fun t ht hxt => hd t ht (by
      subst hxt
      exact List.mem_append_left _ (List.mem_filterMap.2 ⟨.tmp t, by simp [ho, Op.operands], rfl⟩))).symm
theorem HeldAt.put {L : List (Addr × Value)} {o : Oper} {k : Nat} (d : Option Tmp) (a : Act) (v : Value) (hd : ∀ t, d = some t → t ∉ looksF ops o) (h : HeldAt ops L o k (a.put d v)) : HeldAt ops L o k a := by
  unfold looksF at hd
  by_cases hu : dull o.op = true
  · intro _
    cases ho : o.op <;> simp [ho, dull] at hu ⊢
  · rw [if_neg hu] at hd
    exact HeldAt.put0 d a v hd h
theorem HeldAt.defers {L : List (Addr × Value)} {o : Oper} {k : Nat} (a : Act) (d : List Deferred) (h : HeldAt ops L o k { a with defers := d }) : HeldAt ops L o k a := fun hw => by
  have h1 := h hw
  cases ho : o.op <;> simp only [ho] at h1 ⊢
  case load t x =>
    cases hk : L[k]? <;> simp only [hk] at h1 ⊢
    rw [← h1]
    cases x <;> rfl
def oneCellLoad (P : Program) : Op → Bool
  | .load t _ => match P.underlying t with | some (.struct _) | some (.array _ _) | none => false | _ => true
  | _ => false
theorem held_stable {L : List (Addr × Value)} {o : Oper} {k : Nat} {a : Act} {w : World} {v : Value} (h1 : oneCellLoad P o.op = true) (hH : HeldAt ops L o k a) (hS : Cells L w) (hy : Here P ops w o v a) : Stable P ops (Cells L) o v a := fun w' hS' => by
  rcases hy with ⟨hw, hr⟩ | hy
  · refine .inl ⟨hw, ?_⟩
    have h2 := hH hw
    cases ho : o.op <;> rw [ho] at h2 h1 <;> first | (exfalso; exact Bool.noConfusion h1) | skip
    case load t x =>
      simp only at h2
      cases hk : L[k]? <;> simp only [hk] at h2
      rename_i p
      have hp : p ∈ L := List.mem_of_getElem? hk
      have hag : ∀ w, (Go.isAgg t).run P w = .ok false w := fun w => by
        unfold Go.isAgg
        have h1' : (match P.underlying t with | some (.struct _) | some (.array _ _) | none => false | _ => true) = true := h1
        clear h1
        cases hu : P.underlying t with
        | none => simp [hu] at h1'
        | some d =>
          rw [Sem.run_bind, run_underlying hu]
          cases d <;> first | (simp only [Result.andThen]; rfl) | (simp [hu] at h1')
      have go : ∀ w, Cells L w → (execOp a.eval o).run P w = .ok (.value p.2) w := fun w hc => by
        unfold execOp
        simp only [ho, h2, Instr.loadAt, Instr.sureAddr, Sem.run_bind, Sem.run_pure, Result.andThen_ok, Go.loadVar, hag, Bool.false_eq_true, if_false]
        simp [Go.load, Sem.run, hc p hp]
      rw [go w hS] at hr
      simp only [Result.ok.injEq, Next.value.injEq, and_true] at hr
      rw [← hr]
      exact go w' hS'
  · exact .inr hy

/-! ### plans -/
inductive Plan where
  | stop
  | seg (r : List Nat) (p : Plan)
  | hold (r : List Nat) (p : Plan)
  | loud (i : Nat) (p : Plan)
  | fork (i : Nat) (p : Plan) (j : Nat) (q : Plan)
def pick (ops : Array Oper) : List Nat → List Oper
  | [] => []
  | i :: r => match ops[i]? with | some o => o :: pick ops r | none => pick ops r
theorem wpOps_pick (r : List Nat) : wpOps P ops Q r = wpList P ops Q (pick ops r) := by
  induction r with
  | nil => funext a w; simp [wpOps, wpList, pick]
  | cons i r ih =>
    funext a w
    unfold pick
    cases hi : ops[i]? with
    | none => simp only [wpOps, hi]; rw [ih]
    | some o => simp only [wpOps, hi, wpList, ih]
/-- What is to be shown of a plan. -/
def wpPlan (P : Program) (ops : Array Oper) (Q : Exit → Act → World → Prop) (S : World → Prop) : Plan → Act → World → Prop
  | .stop, a, w => Q .normal a w
  | .seg r p, a, w => wpList P ops (Exit.then (wpPlan P ops Q S p) Q) (pick ops r) a w
  | .hold r p, a, w => S w ∧ wpList P ops (Exit.then (wpPlan P ops Q S p) Q) (pick ops r) a w
  | .loud i p, a, w => wpList P ops (Exit.then (fun a w => S w ∧ wpPlan P ops Q S p a w) Q) (pick ops [i]) a w
  | .fork i p j q, a, w => wpList P ops (Exit.then (fun a w => S w ∧ wpPlan P ops Q S p a w) Q) (pick ops [i]) a w ∧ wpList P ops (Exit.then (fun a w => S w ∧ wpPlan P ops Q S q a w) Q) (pick ops [j]) a w
def aheadB (P : Program) (md : Region.Mode) (ops : Array Oper) (T : List Nat) (l : Array Bool) (i : Nat) : Bool := (List.range ops.size).all fun j => match ops[j]? with
  | some o => j == i || l.getD j true || waits md ops i ops.size j || dampKind P o.op || T.contains j
  | none => true
theorem aheadB_spec {l : Array Bool} {i : Nat} (h : aheadB P md ops T l i = true) (j : Nat) (oj : Oper) (hj : ops[j]? = some oj) (hji : j ≠ i) (hl : l.getD j true = false) (hw : waits md ops i ops.size j = false) : dampKind P oj.op = true ∨ T.contains j = true := by
  have h1 := List.all_eq_true.1 h j (List.mem_range.2 (Array.getElem?_eq_some_iff.1 hj).1)
  rw [hj] at h1
  simpa [hji, hl, hw] using h1
def okA (P : Program) (md : Region.Mode) (ops : Array Oper) (l : Array Bool) (i : Nat) : Bool := match ops[i]? with
  | some o => dryKind P o.op && Region.free md ops l i
  | none => false
def okC (P : Program) (md : Region.Mode) (ops : Array Oper) (l : Array Bool) (i : Nat) : Bool := match ops[i]? with
  | some o => dampKind P o.op && Region.free md ops l i && aheadB P md ops [] l i
  | none => false
def okD (P : Program) (md : Region.Mode) (ops : Array Oper) (T : List Nat) (H : List (Nat × Nat)) (l : Array Bool) (i : Nat) : Bool := match ops[i]? with
  | some o => oneCellLoad P o.op && Region.free md ops l i && aheadB P md ops T l i && H.any (·.1 == i)
  | none => false
def segB (P : Program) (md : Region.Mode) (ops : Array Oper) (T : List Nat) : List Nat → Array Bool → Option (Array Bool)
  | [], l => some l
  | i :: r, l => if (Region.ready md ops l).contains i && !T.contains i && (okA P md ops l i || (Region.ready md ops l == [i]) || okC P md ops l i) then segB P md ops T r (l.setIfInBounds i true) else none
def holdB (P : Program) (md : Region.Mode) (ops : Array Oper) (T : List Nat) (H : List (Nat × Nat)) : List Nat → Array Bool → Option (Array Bool)
  | [], l => some l
  | i :: r, l => if (Region.ready md ops l).contains i && !T.contains i && (okA P md ops l i || okC P md ops l i || okD P md ops T H l i) then holdB P md ops T H r (l.setIfInBounds i true) else none
def planB (P : Program) (md : Region.Mode) (ops : Array Oper) (T : List Nat) (H : List (Nat × Nat)) : Plan → Array Bool → Bool
  | .stop, l => (Region.ready md ops l).isEmpty
  | .seg r p, l => match segB P md ops T r l with
    | some l' => planB P md ops T H p l'
    | none => false
  | .hold r p, l => match holdB P md ops T H r l with
    | some l' => planB P md ops T H p l'
    | none => false
  | .loud i p, l => (Region.ready md ops l == [i]) && planB P md ops T H p (l.setIfInBounds i true)
  | .fork i p j q, l => (Region.ready md ops l == [i, j]) && planB P md ops T H p (l.setIfInBounds i true) && planB P md ops T H q (l.setIfInBounds j true)
theorem wpList_pick_cons {i : Nat} {r : List Nat} {a : Act} {w : World} : wpList P ops Q (pick ops (i :: r)) a w = wpOp P ops Q i (wpList P ops Q (pick ops r)) a w := by
  rw [← wpOps_pick, wpOps_cons, ← wpOps_pick]
/-- Only what is let on normally matters. -/
theorem wpOp_then {i : Nat} {K K' : Act → World → Prop} {a : Act} {w : World} (h : wpOp P ops (Exit.then K' Q) i K a w) (hQ : Safe Q) : wpOp P ops Q i K a w := by
  unfold wpOp at *
  split at h
  · exact h
  · split at h
    · rename_i hw
      rw [if_pos hw]
      rcases h with h | ⟨_, x, y, h⟩
      · refine .inl ?_
        unfold Oper.wp at *
        generalize Sem.run P _ w = res at *
        cases res with
        | ok nx w' =>
          cases nx <;> simp only [Oper.upon] at h ⊢ <;> first
            | exact h
            | exact Calls.mono h (fun e w'' he => by cases e <;> first | exact he | (obtain ⟨x, y, he⟩ := he; exact (hQ.2 _ _ he).elim))
        | halt z w' => cases z <;> simp only [Oper.upon] at h ⊢ <;> exact h
      · exact (hQ.2 _ _ h).elim
    · rename_i hw
      rw [if_neg hw]; exact h
/-- How many operations a plan has. -/
def Plan.size : Plan → Nat
  | .stop => 0
  | .seg r p => r.length + p.size
  | .hold r p => r.length + p.size
  | .loud _ p => p.size + 1
  | .fork _ p _ _ => p.size + 1
def Plan.even : Plan → Bool
  | .stop => true
  | .seg _ p => p.even
  | .hold _ p => p.even
  | .loud _ p => p.even
  | .fork _ p _ q => p.even && q.even && (p.size == q.size)
section
variable {L : List (Addr × Value)} {H : List (Nat × Nat)}
/-- What holds of Q at the end. -/
structure Ends (ops : Array Oper) (Q : Exit → Act → World → Prop) (L : List (Addr × Value)) (H : List (Nat × Nat)) : Prop where
  fits : ∀ (k : Nat) (o : Oper), ops[k]? = some o → ∀ a w, Q .normal a w → Fits ops o a
  held : ∀ q ∈ H, ∀ o, ops[q.1]? = some o → ∀ a w, Q .normal a w → HeldAt ops L o q.2 a
theorem any_one {i n : Nat} {l : Array Bool} {a : Act} {w : World} (hr : Region.ready md ops l = [i]) (h : wpOp P ops Q i (fun a' w' => (T.contains i = true → S w') ∧ wpAnyT P md ops Q S T n (l.setIfInBounds i true) a' w') a w) : wpAnyT P md ops Q S T (n + 1) l a w :=
  ⟨fun h0 => (by rw [hr] at h0; cases h0), fun j hj => by rw [hr, List.mem_singleton] at hj; subst hj; exact h⟩
theorem stepA {i n : Nat} {l : Array Bool} {a : Act} {w : World} (hQ : Safe Q) (hP : prodB md ops = true) (hsel : Region.noSelect ops = true) (hE : Ends ops Q L H) (hs : Shut md ops l) (hr : i ∈ Region.ready md ops l) (hiT : T.contains i = false) (ha : okA P md ops l i = true)
    (h : wpOp P ops Q i (fun a' w' => wpAnyT P md ops Q (Cells L) T n (l.setIfInBounds i true) a' w') a w) : wpAnyT P md ops Q (Cells L) T (n + 1) l a w := by
  unfold okA at ha
  cases hi : ops[i]? with
  | none => rw [hi] at ha; cases ha
  | some o =>
    rw [hi] at ha
    simp only [Bool.and_eq_true] at ha
    have hfit : Fits ops o a := fact_op (B := fun _ => True) hQ hP (fun d a v hd => Fits.put hd) (fun a d => Fits.defers) (hE.fits i o hi) hs hi hr (wpOp_mono (fun a w hh => ⟨trivial, hh⟩) h)
    obtain ⟨v, hy, hK⟩ := dry_yields hQ hi ha.1 hfit h
    refine first_ (S' := fun _ => True) hQ hP hE.fits hi hsel hiT n l a w hs trivial (Region.free_spec hi ha.2) (fun _ _ _ _ _ _ => .inr (fun _ _ => trivial)) hr (fun w' _ => ?_) hK
    rcases hy with ⟨h1, h2⟩ | h1
    · exact .inl ⟨h1, h2 w'⟩
    · exact .inr h1
theorem stepC {i n : Nat} {l : Array Bool} {a : Act} {w : World} (hQ : Safe Q) (hP : prodB md ops = true) (hsel : Region.noSelect ops = true) (hE : Ends ops Q L H) (hs : Shut md ops l) (hr : i ∈ Region.ready md ops l) (hiT : T.contains i = false) (ha : okC P md ops l i = true)
    (h : wpOp P ops Q i (fun a' w' => wpAnyT P md ops Q (Cells L) T n (l.setIfInBounds i true) a' w') a w) : ∃ o v, ops[i]? = some o ∧ wpAnyT P md ops Q (Cells L) T n (l.setIfInBounds i true) (a.put o.dst v) w ∧ wpAnyT P md ops Q (Cells L) T (n + 1) l a w := by
  unfold okC at ha
  cases hi : ops[i]? with
  | none => rw [hi] at ha; cases ha
  | some o =>
    rw [hi] at ha
    simp only [Bool.and_eq_true] at ha
    have hfit : Fits ops o a := fact_op (B := fun _ => True) hQ hP (fun d a v hd => Fits.put hd) (fun a d => Fits.defers) (hE.fits i o hi) hs hi hr (wpOp_mono (fun a w hh => ⟨trivial, hh⟩) h)
    obtain ⟨v, hy, hK⟩ := damp_here hQ hi ha.1.1 hfit h
    refine ⟨o, v, rfl, hK, first_ (S' := fun w' => w' = w) hQ hP hE.fits hi hsel hiT n l a w hs rfl (Region.free_spec hi ha.1.2) (fun j oj hj hji hl hw => ?_) hr (fun w' e => by subst e; exact hy) hK⟩
    rcases aheadB_spec (T := []) ha.2 j oj hj hji hl hw with h1 | h1
    · exact .inl h1
    · cases h1
theorem stepD {i n : Nat} {l : Array Bool} {a : Act} {w : World} (hQ : Safe Q) (hP : prodB md ops = true) (hsel : Region.noSelect ops = true) (hE : Ends ops Q L H) (hs : Shut md ops l) (hr : i ∈ Region.ready md ops l) (hiT : T.contains i = false) (ha : okD P md ops T H l i = true) (hS : Cells L w)
    (h : wpOp P ops Q i (fun a' w' => wpAnyT P md ops Q (Cells L) T n (l.setIfInBounds i true) a' w') a w) : wpAnyT P md ops Q (Cells L) T (n + 1) l a w := by
  unfold okD at ha
  cases hi : ops[i]? with
  | none => rw [hi] at ha; cases ha
  | some o =>
    rw [hi] at ha
    simp only [Bool.and_eq_true, List.any_eq_true, beq_iff_eq] at ha
    obtain ⟨⟨⟨h1, h2⟩, h3⟩, ⟨i', k⟩, hq, e⟩ := ha
    simp only at e
    subst e
    have hd : dampKind P o.op = true := by
      cases ho : o.op <;> rw [ho] at h1 <;> first | rfl | cases h1
    have hfit : Fits ops o a := fact_op (B := fun _ => True) hQ hP (fun d a v hd => Fits.put hd) (fun a d => Fits.defers) (hE.fits _ o hi) hs hi hr (wpOp_mono (fun a w hh => ⟨trivial, hh⟩) h)
    have hheld : HeldAt ops L o k a := fact_op (B := fun _ => True) hQ hP (fun d a v hd => HeldAt.put d a v hd) (fun a d => HeldAt.defers a d) (hE.held _ hq o hi) hs hi hr (wpOp_mono (fun a w hh => ⟨trivial, hh⟩) h)
    obtain ⟨v, hy, hK⟩ := damp_here hQ hi hd hfit h
    refine first_ (S' := Cells L) hQ hP hE.fits hi hsel hiT n l a w hs hS (Region.free_spec hi h2) (fun j oj hj hji hl hw => ?_) hr (held_stable h1 hheld hS hy) hK
    rcases aheadB_spec h3 j oj hj hji hl hw with h1 | h1
    · exact .inl h1
    · exact .inr (fun w hh => hh h1)
theorem wpOp_damp_world {i : Nat} {o : Oper} {K : Act → World → Prop} {a : Act} {w : World} (hQ : Safe Q) (hi : ops[i]? = some o) (hk : dampKind P o.op = true) (hf : Fits ops o a) (h : wpOp P ops Q i K a w) : wpOp P ops Q i (fun a' w' => w' = w ∧ K a' w') a w := by
  obtain ⟨v, hy, hK⟩ := damp_here hQ hi hk hf h
  exact hy.wpOp hi ⟨rfl, hK⟩
theorem seg_any (hQ : Safe Q) (hP : prodB md ops = true) (hsel : Region.noSelect ops = true) (hE : Ends ops Q L H) {K : Act → World → Prop} {n : Nat} {l' : Array Bool}
    (hK : Shut md ops l' → ∀ a w, K a w → wpAnyT P md ops Q (Cells L) T n l' a w) :
    ∀ (r : List Nat) (l : Array Bool) (a : Act) (w : World), segB P md ops T r l = some l' → Shut md ops l → wpList P ops (Exit.then K Q) (pick ops r) a w → wpAnyT P md ops Q (Cells L) T (r.length + n) l a w
  | [], l, a, w, hg, hs, h => by
    unfold segB at hg
    cases hg
    rw [List.length_nil, Nat.zero_add]
    exact hK hs a w h
  | i :: r, l, a, w, hg, hs, h => by
    unfold segB at hg
    split at hg
    · rename_i hc
      simp only [Bool.and_eq_true, Bool.or_eq_true, beq_iff_eq, Bool.not_eq_true'] at hc
      obtain ⟨⟨hr, hiT⟩, hk⟩ := hc
      have hr' := List.contains_iff_mem.1 hr
      rw [wpList_pick_cons] at h
      have hA : wpOp P ops Q i (fun a' w' => wpAnyT P md ops Q (Cells L) T (r.length + n) (l.setIfInBounds i true) a' w') a w := wpOp_mono (fun a w hh => seg_any hQ hP hsel hE hK r _ a w hg (hs.set hr') hh) (wpOp_then h hQ)
      rw [List.length_cons, show r.length + 1 + n = r.length + n + 1 by omega]
      rcases hk with (hk | hk) | hk
      · exact stepA hQ hP hsel hE hs hr' hiT hk hA
      · exact any_one hk (wpOp_mono (fun a w hh => ⟨fun e => (by rw [hiT] at e; cases e), hh⟩) hA)
      · obtain ⟨_, _, _, _, hh⟩ := stepC hQ hP hsel hE hs hr' hiT hk hA
        exact hh
    · cases hg
theorem un_set {l : Array Bool} {i j : Nat} (hr : i ∈ Region.ready md ops l) (h : (l.setIfInBounds i true).getD j true = false) : l.getD j true = false := by
  by_cases hij : i = j
  · subst hij; exact (mem_ready.1 hr).1
  · rw [getD_set_ne true hij] at h; exact h
theorem holdB_un : ∀ {r : List Nat} {l l' : Array Bool}, holdB P md ops T H r l = some l' → (∀ j ∈ r, l.getD j true = false) ∧ ∀ j, l'.getD j true = false → l.getD j true = false
  | [], l, l', h => by
    unfold holdB at h
    cases h
    exact ⟨fun _ hj => (by cases hj), fun _ h => h⟩
  | i :: r, l, l', h => by
    unfold holdB at h
    split at h
    · rename_i hc
      simp only [Bool.and_eq_true] at hc
      have hr := List.contains_iff_mem.1 hc.1.1
      obtain ⟨h1, h2⟩ := holdB_un h
      refine ⟨fun j hj => ?_, fun j hj => un_set hr (h2 j hj)⟩
      rcases List.mem_cons.1 hj with rfl | hj
      · exact (mem_ready.1 hr).1
      · exact un_set hr (h1 j hj)
    · cases h
theorem hold_any (hQ : Safe Q) (hP : prodB md ops = true) (hsel : Region.noSelect ops = true) (hE : Ends ops Q L H) {K : Act → World → Prop} {n : Nat} {l' : Array Bool}
    (hs' : Shut md ops l') (hK : ∀ a w, K a w → wpAnyT P md ops Q (Cells L) T n l' a w) :
    ∀ (r : List Nat) (l : Array Bool) (a : Act) (w : World), holdB P md ops T H r l = some l' → Shut md ops l → Cells L w → wpList P ops (Exit.then K Q) (pick ops r) a w → wpAnyT P md ops Q (Cells L) T (r.length + n) l a w
  | [], l, a, w, hg, hs, _, h => by
    unfold holdB at hg
    cases hg
    rw [List.length_nil, Nat.zero_add]
    exact hK a w h
  | i :: r, l, a, w, hg, hs, hS, h => by
    unfold holdB at hg
    split at hg
    · rename_i hc
      simp only [Bool.and_eq_true, Bool.or_eq_true, Bool.not_eq_true'] at hc
      obtain ⟨⟨hr, hiT⟩, hk⟩ := hc
      have hr' := List.contains_iff_mem.1 hr
      rw [wpList_pick_cons] at h
      have h2 := wpOp_then h hQ
      -- each only reads: the world stays
      have hdamp : ∃ o, ops[i]? = some o ∧ dampKind P o.op = true := by
        cases hi : ops[i]? with
        | none => rcases hk with (hk | hk) | hk <;> simp [okA, okC, okD, hi] at hk
        | some o =>
          refine ⟨o, rfl, ?_⟩
          rcases hk with (hk | hk) | hk
          · simp only [okA, hi, Bool.and_eq_true] at hk
            have := hk.1
            cases ho : o.op <;> rw [ho] at this <;> first | rfl | exact this | cases this
          · simp only [okC, hi, Bool.and_eq_true] at hk; exact hk.1.1
          · simp only [okD, hi, Bool.and_eq_true] at hk
            have := hk.1.1.1
            cases ho : o.op <;> rw [ho] at this <;> first | rfl | cases this
      obtain ⟨o, hi, hd⟩ := hdamp
      have toA : ∀ a w', Cells L w' → wpList P ops (Exit.then K Q) (pick ops r) a w' → wpAnyT P md ops Q (Cells L) T (r.length + n) (l.setIfInBounds i true) a w' := fun a w' hS' hh => hold_any hQ hP hsel hE hs' hK r _ a w' hg (hs.set hr') hS' hh
      -- that its operands fit is known at the end of the list's walk
      have hfit : Fits ops o a := by
        refine wpOp_get hQ (fun p hp a v => ?_) (fun a d => Fits.defers) h2 (fun a' w' hh => ?_)
        · rw [hi] at hp; cases hp
          exact Fits.put (prodB_spec hP hi hi (ready_not_waits hs (listed_false hr') hr' _))
        · obtain ⟨u1, u2⟩ := holdB_un hg
          have stab : ∀ j p, ops[j]? = some p → l.getD j true = false → ∀ a v, Fits ops o (a.put p.dst v) → Fits ops o a := fun j p hj hl a v => Fits.put (prodB_spec hP hi hj (ready_not_waits hs (getD_false hl) hr' _))
          rw [← wpOps_pick] at hh
          refine wpOps_get hQ.then r a' w' (fun j p hj hp => stab j p hp (un_set hr' (u1 j hj))) (fun a d => Fits.defers) hh (fun a w hK' => ?_)
          exact wpAny_get hQ (fun a d => Fits.defers) (hE.fits i o hi) n l' a w (fun j p hj hl => stab j p hj (un_set hr' (u2 j hl))) (hK a w hK')
      have hA : wpOp P ops Q i (fun a' w' => wpAnyT P md ops Q (Cells L) T (r.length + n) (l.setIfInBounds i true) a' w') a w := wpOp_mono (fun a w' hh => toA a w' (by rw [hh.1]; exact hS) hh.2) (wpOp_damp_world hQ hi hd hfit h2)
      rw [List.length_cons, show r.length + 1 + n = r.length + n + 1 by omega]
      rcases hk with (hk | hk) | hk
      · exact stepA hQ hP hsel hE hs hr' hiT hk hA
      · obtain ⟨_, _, _, _, hh⟩ := stepC hQ hP hsel hE hs hr' hiT hk hA
        exact hh
      · exact stepD hQ hP hsel hE hs hr' hiT hk hS hA
    · cases hg
theorem segB_shut : ∀ {r : List Nat} {l l' : Array Bool}, segB P md ops T r l = some l' → Shut md ops l → Shut md ops l'
  | [], l, l', h, hs => by unfold segB at h; cases h; exact hs
  | i :: r, l, l', h, hs => by
    unfold segB at h
    split at h
    · rename_i hc
      simp only [Bool.and_eq_true] at hc
      exact segB_shut h (hs.set (List.contains_iff_mem.1 hc.1.1))
    · cases h
theorem holdB_shut : ∀ {r : List Nat} {l l' : Array Bool}, holdB P md ops T H r l = some l' → Shut md ops l → Shut md ops l'
  | [], l, l', h, hs => by unfold holdB at h; cases h; exact hs
  | i :: r, l, l', h, hs => by
    unfold holdB at h
    split at h
    · rename_i hc
      simp only [Bool.and_eq_true] at hc
      exact holdB_shut h (hs.set (List.contains_iff_mem.1 hc.1.1))
    · cases h
theorem plan_any (hQ : Safe Q) (hP : prodB md ops = true) (hsel : Region.noSelect ops = true) (hE : Ends ops Q L H) :
    ∀ (p : Plan) (l : Array Bool) (a : Act) (w : World), planB P md ops T H p l = true → p.even = true → Shut md ops l → wpPlan P ops Q (Cells L) p a w → wpAnyT P md ops Q (Cells L) T p.size l a w
  | .stop, l, a, w, hg, _, _, h => by
    unfold planB at hg
    exact ⟨List.isEmpty_iff.1 hg, h⟩
  | .seg r p, l, a, w, hg, he, hs, h => by
    unfold planB at hg
    cases hl : segB P md ops T r l with
    | none => rw [hl] at hg; cases hg
    | some l' =>
      rw [hl] at hg
      exact seg_any hQ hP hsel hE (fun hs' a w hh => plan_any hQ hP hsel hE p l' a w hg he hs' hh) r l a w hl hs h
  | .hold r p, l, a, w, hg, he, hs, h => by
    unfold planB at hg
    cases hl : holdB P md ops T H r l with
    | none => rw [hl] at hg; cases hg
    | some l' =>
      rw [hl] at hg
      exact hold_any hQ hP hsel hE (holdB_shut hl hs) (fun a w hh => plan_any hQ hP hsel hE p l' a w hg he (holdB_shut hl hs) hh) r l a w hl hs h.1 h.2
  | .loud i p, l, a, w, hg, he, hs, h => by
    unfold planB at hg
    rw [Bool.and_eq_true, beq_iff_eq] at hg
    unfold wpPlan at h
    rw [wpList_pick_cons] at h
    have hr : i ∈ Region.ready md ops l := by rw [hg.1]; exact List.mem_singleton.2 rfl
    exact any_one hg.1 (wpOp_mono (fun a w hh => ⟨fun _ => hh.1, plan_any hQ hP hsel hE p _ a w hg.2 he (hs.set hr) hh.2⟩) (wpOp_then h hQ))
  | .fork i p j q, l, a, w, hg, he, hs, h => by
    unfold planB at hg
    rw [Bool.and_eq_true, Bool.and_eq_true, beq_iff_eq] at hg
    obtain ⟨⟨hr, hp⟩, hq⟩ := hg
    unfold wpPlan at h
    rw [wpList_pick_cons, wpList_pick_cons] at h
    unfold Plan.even at he
    rw [Bool.and_eq_true, Bool.and_eq_true, beq_iff_eq] at he
    obtain ⟨⟨e1, e2⟩, e3⟩ := he
    have hi : i ∈ Region.ready md ops l := by rw [hr]; simp
    have hj : j ∈ Region.ready md ops l := by rw [hr]; simp
    refine ⟨fun h0 => (by rw [hr] at h0; cases h0), fun k hk => ?_⟩
    rw [hr] at hk
    rcases List.mem_cons.1 hk with rfl | hk
    · exact wpOp_mono (fun a w hh => ⟨fun _ => hh.1, plan_any hQ hP hsel hE p _ a w hp e1 (hs.set hi) hh.2⟩) (wpOp_then h.1 hQ)
    · rw [List.mem_singleton] at hk
      subst hk
      refine wpOp_mono (fun a w hh => ⟨fun _ => hh.1, ?_⟩) (wpOp_then h.2 hQ)
      have := plan_any hQ hP hsel hE q _ a w hq e2 (hs.set hj) hh.2
      rw [← e3] at this
      exact this
end
/-- All operands fit, told at the end. -/
def fineB (ops : Array Oper) (a : Act) : Bool := ops.toList.all fun o => !Region.wanted o (yielded ops a.tmps) || okVals a.eval o.op
theorem fineB_spec {a : Act} (h : fineB ops a = true) (k : Nat) (o : Oper) (hk : ops[k]? = some o) : Fits ops o a := fun hw => by
  have h1 := List.all_eq_true.1 h o (by rw [Array.mem_toList_iff]; exact Array.mem_of_getElem? hk)
  rw [hw] at h1
  simpa using h1
/-- What is asked at a region's end besides. -/
def Fine (ops : Array Oper) (L : List (Addr × Value)) (H : List (Nat × Nat)) (Q : Exit → Act → World → Prop) : Exit → Act → World → Prop
  | .normal, a, w => fineB ops a = true ∧ HeldAll ops L a H ∧ Q .normal a w
  | e, a, w => Q e a w
theorem Fine.to {L : List (Addr × Value)} {H : List (Nat × Nat)} {e : Exit} {a : Act} {w : World} (h : Fine ops L H Q e a w) : Q e a w := by
  cases e <;> first | exact h.2.2 | exact h
theorem wpAny_monoQ {Q Q' : Exit → Act → World → Prop} (hQ : Safe Q) (hq : ∀ a w, Q .normal a w → Q' .normal a w) : ∀ (n : Nat) (li : Array Bool) (a : Act) (w : World), wpAny P md ops Q n li a w → wpAny P md ops Q' n li a w
  | 0, li, a, w, hh => ⟨hh.1, hq _ _ hh.2⟩
  | n + 1, li, a, w, hh => by
    refine ⟨fun h0 => hq _ _ (hh.1 h0), fun i hi => ?_⟩
    have h3 := wpOp_mono (fun a w => wpAny_monoQ hQ hq n _ a w) (hh.2 i hi)
    unfold wpOp at *
    split at h3
    · exact h3
    · split at h3
      · rename_i hw
        rw [if_pos hw]
        rcases h3 with h3 | ⟨_, x, y, h3⟩
        · refine .inl ?_
          unfold Oper.wp at *
          generalize Sem.run P _ w = res at *
          cases res with
          | ok nx w' =>
            cases nx <;> simp only [Oper.upon] at h3 ⊢ <;> first
              | exact h3
              | exact Calls.mono h3 (fun e w'' he => by cases e <;> first | exact he | exact (hQ.1 _ _ _ he).elim | (obtain ⟨x, y, he⟩ := he; exact (hQ.2 _ _ he).elim))
          | halt z w' => cases z <;> simp only [Oper.upon] at h3 ⊢ <;> first | exact h3 | exact (hQ.1 _ _ _ h3).elim
        · exact (hQ.2 _ _ h3).elim
      · rename_i hw
        rw [if_neg hw]; exact h3
def fullB (P : Program) (ops : Array Oper) (T : List Nat) (H : List (Nat × Nat)) (p : Plan) : Bool := (p.size == ops.size) && p.even && Region.noSelect ops && prodB .any ops && planB P .any ops T H p (Array.replicate ops.size false)
end
/-- A region whose order is drawn, walked by a plan. -/
theorem region {Q : Exit → Act → World → Prop} {id : Nat} {l : List Oper} {a : Act} {w : World} (T : List Nat) (L : List (Addr × Value)) (H : List (Nat × Nat)) (p : Plan) (hm : P.follows .mixedOrders = true) (hB : fullB P l.toArray T H p = true) (hQ : Safe Q)
    (h : wpPlan P l.toArray (Fine l.toArray L H Q) (Cells L) p a w.drew) : (Code.region id l.toArray true).wp P Q a w := by
  unfold fullB at hB
  simp only [Bool.and_eq_true, beq_iff_eq] at hB
  obtain ⟨⟨⟨⟨hn, he⟩, hsel⟩, hP⟩, hg⟩ := hB
  have hQ2 : Safe (Fine l.toArray L H Q) := ⟨fun c a w hh => hQ.1 _ _ _ hh, fun a w hh => hQ.2 _ _ hh⟩
  have hE : Ends l.toArray (Fine l.toArray L H Q) L H := ⟨fun k o hk a w hh => fineB_spec hh.1 k o hk, fun q hq o ho a w hh => HeldAll.get hh.2.1 q hq o ho⟩
  have h1 := plan_any hQ2 hP hsel hE p _ a w.drew hg he (Shut.start _) h
  rw [hn] at h1
  exact wp_region_any hm (wpAny_monoQ hQ2 (fun a w hh => hh.2.2) _ _ _ _ (wpAnyT_any _ _ _ _ h1))
/-- In one row, nothing held. -/
theorem row {Q : Exit → Act → World → Prop} {id : Nat} {l : List Oper} {a : Act} {w : World} (r : List Nat) (hm : P.follows .mixedOrders = true) (hB : fullB P l.toArray [] [] (.seg r .stop) = true) (hQ : Safe Q)
    (h : wpList P l.toArray (Fine l.toArray [] [] Q) (pick l.toArray r) a w.drew) : (Code.region id l.toArray true).wp P Q a w := by
  refine region [] [] [] (.seg r .stop) hm hB hQ ?_
  have e : (Exit.then (wpPlan P l.toArray (Fine l.toArray [] [] Q) (Cells []) .stop) (Fine l.toArray [] [] Q)) = Fine l.toArray [] [] Q := by
    funext e a w
    cases e <;> rfl
  show wpList P l.toArray (Exit.then (wpPlan P l.toArray (Fine l.toArray [] [] Q) (Cells []) .stop) (Fine l.toArray [] [] Q)) (pick l.toArray r) a w.drew
  rw [e]
  exact h
end Go.Canon
