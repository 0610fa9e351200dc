/-
  A reader of requests, plainly.
-/
import Derived.Test.YtibegbmehpggbaaDoorTxtP
import Derived.Test.YtibegbmehpggbaaDoorReq
import Derived.Test.YtibegbmehpggbaaDoorChunk
namespace Go.Proofs.YtibegbmehpggbaaDoor
set_option linter.unusedVariables false
set_option linter.unusedSimpArgs false
namespace Wire
def zeroR : ReqP := ⟨[], [], [], []⟩
structure S where
  bad : Bool
  whole : Bool
  head : Nat
  lines : Nat
  line : List Int
  x : ReqP
  sa : Bool
  sl : Bool
  se : Bool
  left : Int
  ch : Option Chunk.Rd
  inB : Bool
def new : S := ⟨false, false, 0, 0, [], zeroR, false, false, false, 0, none, false⟩
/-! ### the first line -/
def tarC (c : Int) : Bool := lowC c || digC c || decide (c = 45) || decide (c = 47)
def target (s : List Int) : Bool := decide (s[0]? = some 47) && decide (s.length ≤ 64) && s.all tarC
def http11 : List Int := [72, 84, 84, 80, 47, 49, 46, 49]
def verb (a : List Int) : Bool := decide (a = [71, 69, 84]) || decide (a = [80, 85, 84]) || decide (a = [80, 79, 83, 84])
def first (r : S) (s : List Int) : Int × S :=
  match splitF 32 s with
  | [a, b, c] => if c = http11 ∧ verb a = true ∧ target b = true then (0, { r with x := { r.x with method := a, target := b } }) else (4, r)
  | _ => (4, r)
/-! ### further lines -/
def upC (c : Int) : Bool := decide (65 ≤ c ∧ c ≤ 90)
def low (c : Int) : Int := if upC c = true then c + 32 else c
def alC (c : Int) : Bool := lowC c || upC c || decide (c = 45)
def upto (s : List Int) : List Int := s.takeWhile fun c => decide (c ≠ 58)
def split (s : List Int) : Option (List Int × List Int) :=
  if (upto s).length < s.length ∧ (upto s).all alC = true ∧ 1 ≤ (upto s).length ∧ (upto s).length ≤ 32 ∧ s[(upto s).length + 1]? = some 32 then some ((upto s).map low, s.drop ((upto s).length + 2)) else none
def kAuth : List Int := [97, 117, 116, 104, 111, 114, 105, 122, 97, 116, 105, 111, 110]
def kLen : List Int := [99, 111, 110, 116, 101, 110, 116, 45, 108, 101, 110, 103, 116, 104]
def kEnc : List Int := [116, 114, 97, 110, 115, 102, 101, 114, 45, 101, 110, 99, 111, 100, 105, 110, 103]
def bearer : List Int := [66, 101, 97, 114, 101, 114, 32]
def chunked : List Int := [99, 104, 117, 110, 107, 101, 100]
def further (r : S) (s : List Int) : Int × S :=
  match split s with
  | none => (4, r)
  | some (n, v) =>
    if n = kAuth then
      if r.sa = true then (4, r)
      else if v.take 7 ≠ bearer then (4, { r with sa := true })
      else (0, { r with sa := true, x := { r.x with token := v.drop 7 } })
    else if n = kLen then
      if r.sl = true ∨ r.se = true then (4, r)
      else if (readD v).2 = false then (4, { r with sl := true })
      else if 2048 < (readD v).1 then (5, { r with sl := true })
      else (0, { r with sl := true, left := (readD v).1 })
    else if n = kEnc then
      if r.se = true ∨ r.sl = true then (4, r)
      else if v ≠ chunked then (4, { r with se := true })
      else (0, { r with se := true })
    else (0, r)
/-! ### byte by byte -/
def ends (r : S) : S := if r.se = true then { r with inB := true, ch := some ⟨2048, 0, 0, []⟩ } else { r with inB := true, whole := decide (r.left = 0) }
def behind (l : List Int) : Bool := decide (l.getLast? = some 13)
def badC (bh : Bool) (b : Int) : Bool := (bh != decide (b = 10)) || (decide (b ≠ 13) && decide (b ≠ 10) && (decide (b < 32) || decide (126 < b)))
def lineEnd (r : S) (s : List Int) : Int × S :=
  if r.lines = 1 then first r s else if s = [] then (0, ends r) else if 17 < r.lines then (5, r) else further r s
def heads (r : S) (b : Int) : Int × S :=
  if 1024 ≤ r.head then (5, r)
  else if badC (behind r.line) b = true then (4, { r with head := r.head + 1 })
  else if b ≠ 10 then (0, { r with head := r.head + 1, line := r.line ++ [b] })
  else lineEnd { r with head := r.head + 1, line := [], lines := r.lines + 1 } r.line.dropLast
def body (r : S) (b : Int) : Int × S :=
  match r.ch with
  | none => (0, { r with x := { r.x with body := r.x.body ++ [b] }, left := r.left - 1, whole := decide (r.left - 1 = 0) })
  | some c => if (Chunk.put c b).1.1 = true then ((Chunk.put c b).1.2, { r with ch := some (Chunk.put c b).2, x := { r.x with body := (Chunk.put c b).2.b }, whole := true }) else ((Chunk.put c b).1.2, { r with ch := some (Chunk.put c b).2 })
def step (r : S) (b : Int) : Int × S := if r.inB = true then body r b else heads r b
def put (r : S) (b : Int) : (Bool × Int) × S :=
  if r.bad = true ∨ r.whole = true then ((false, 20), r)
  else (((step r b).2.whole, (step r b).1), { (step r b).2 with bad := decide ((step r b).1 ≠ 0) })
def go (r : S) : List Int → Int → ReqP × Int × Int
  | [], _ => (zeroR, 0, 3)
  | b :: l, i => if (put r b).1.2 ≠ 0 then (zeroR, 0, (put r b).1.2) else if (put r b).1.1 = true then ((put r b).2.x, i + 1, 0) else go (put r b).2 l (i + 1)
def whole (l : List Int) : ReqP × Int × Int := go new l 0
/-! ### line by line -/
/-- The line at the front: what it says, how many bytes it has, why there is none. The line is at the place `a` of all bytes; `acc` is what was gone through of it. -/
def lineF (a : Nat) (acc : List Int) : List Int → List Int × Int
  | [] => ([], 3)
  | b :: l => if 1024 ≤ a + acc.length then ([], 5) else if badC (behind acc) b = true then ([], 4) else if b = 10 then (acc.dropLast, 0) else lineF a (acc ++ [b]) l
def bodyF (r : S) (l : List Int) : ReqP × Int × Int :=
  if r.se = true then
    if (Chunk.whole l 2048).2.2 ≠ 0 then (zeroR, 0, (Chunk.whole l 2048).2.2) else ({ r.x with body := (Chunk.whole l 2048).1 }, (Chunk.whole l 2048).2.1, 0)
  else if (l.length : Int) < r.left then (zeroR, 0, 3) else ({ r.x with body := l.take r.left.toNat }, r.left, 0)
/-- Behind a line. -/
def nextS (r : S) (a : Nat) (s : List Int) : S := { r with bad := false, head := a + s.length + 2, line := [], lines := r.lines + 1 }
/-- From a line's begin on, at the place `a`. -/
def docGo : Nat → S → Nat → List Int → ReqP × Int × Int
  | 0, _, _, _ => (zeroR, 0, 3)
  | f + 1, r, a, l =>
    if (lineF a [] l).2 ≠ 0 then (zeroR, 0, (lineF a [] l).2)
    else if r.lines ≠ 0 ∧ (lineF a [] l).1 = [] then
      if (bodyF r (l.drop 2)).2.2 ≠ 0 then (zeroR, 0, (bodyF r (l.drop 2)).2.2) else ((bodyF r (l.drop 2)).1, (a : Int) + 2 + (bodyF r (l.drop 2)).2.1, 0)
    else if (lineEnd (nextS r a (lineF a [] l).1) (lineF a [] l).1).1 ≠ 0 then (zeroR, 0, (lineEnd (nextS r a (lineF a [] l).1) (lineF a [] l).1).1)
    else docGo f (lineEnd (nextS r a (lineF a [] l).1) (lineF a [] l).1).2 (a + (lineF a [] l).1.length + 2) (l.drop ((lineF a [] l).1.length + 2))
def docWhole (l : List Int) : ReqP × Int × Int := docGo (l.length + 1) new 0 l
/-! ### the two are the same -/
theorem lineF_ok : ∀ (l acc : List Int) (a : Nat) (s : List Int), lineF a acc l = (s, 0) → ∃ k, k < l.length ∧ l[k]? = some 10 ∧ (acc ++ l.take k).dropLast = s ∧ (acc ++ l.take k).getLast? = some 13 := by
  intro l
  induction l with
  | nil => intro acc a s h; simp [lineF] at h
  | cons b l ih =>
    intro acc a s h
    rw [lineF] at h
    split at h
    · cases h
    · split at h
      · cases h
      · rename_i h1 h2
        split at h
        · rename_i h3
          obtain ⟨rfl, _⟩ := Prod.mk.inj h
          refine ⟨0, by simp, by simp [h3], by simp, ?_⟩
          subst h3
          simp only [List.take_zero, List.append_nil]
          cases hb : behind acc with
          | true => simpa [behind] using hb
          | false => rw [hb] at h2; simp [badC] at h2
        · obtain ⟨k, h4, h5, h6, h7⟩ := ih _ _ _ h
          refine ⟨k + 1, by simpa using h4, by simpa using h5, ?_, ?_⟩
          · rw [List.take_succ_cons]; simpa using h6
          · rw [List.take_succ_cons]; simpa using h7
theorem lineF_drop {l : List Int} {a : Nat} {s : List Int} (h : lineF a [] l = (s, 0)) : l.take (s.length + 2) = s ++ [13, 10] ∧ s.length + 2 ≤ l.length := by
  obtain ⟨k, h1, h2, h3, h4⟩ := lineF_ok l [] a s h
  simp only [List.nil_append] at h3 h4
  have hk : (l.take k).length = k := by rw [List.length_take]; omega
  have hne : l.take k ≠ [] := by intro e; rw [e] at h4; simp at h4
  have hs : s.length = k - 1 := by rw [← h3, List.length_dropLast, hk]
  have hk0 : 0 < k := by rcases Nat.eq_zero_or_pos k with h | h; subst h; simp at hne; exact h
  have e : l.take k = s ++ [13] := by
    obtain ⟨ys, hy⟩ := List.getLast?_eq_some_iff.1 h4
    rw [hy] at h3 ⊢
    rw [List.dropLast_concat] at h3
    rw [h3]
  refine ⟨?_, by omega⟩
  rw [show s.length + 2 = k + 1 by omega, List.take_add_one, h2, e]
  simp
theorem put_on {r : S} (h1 : r.bad = false) (h2 : r.whole = false) (b : Int) : put r b = (((step r b).2.whole, (step r b).1), { (step r b).2 with bad := decide ((step r b).1 ≠ 0) }) := by
  unfold put
  rw [if_neg (by rw [h1, h2]; simp)]
theorem heads_big {r : S} {b : Int} (h : 1024 ≤ r.head) : heads r b = (5, r) := by unfold heads; rw [if_pos h]
theorem heads_bad {r : S} {b : Int} (h : ¬ 1024 ≤ r.head) (h2 : badC (behind r.line) b = true) : heads r b = (4, { r with head := r.head + 1 }) := by unfold heads; rw [if_neg h, if_pos h2]
theorem heads_more {r : S} {b : Int} (h : ¬ 1024 ≤ r.head) (h2 : ¬ badC (behind r.line) b = true) (h3 : b ≠ 10) : heads r b = (0, { r with head := r.head + 1, line := r.line ++ [b] }) := by unfold heads; rw [if_neg h, if_neg h2, if_pos h3]
theorem heads_end {r : S} (h : ¬ 1024 ≤ r.head) (h2 : ¬ badC (behind r.line) 10 = true) : heads r 10 = lineEnd { r with head := r.head + 1, line := [], lines := r.lines + 1 } r.line.dropLast := by unfold heads; rw [if_neg h, if_neg h2, if_neg (by simp)]
theorem lineF_big {a : Nat} {acc l : List Int} {b : Int} (h : 1024 ≤ a + acc.length) : lineF a acc (b :: l) = ([], 5) := by rw [lineF, if_pos h]
theorem lineF_bad {a : Nat} {acc l : List Int} {b : Int} (h : ¬ 1024 ≤ a + acc.length) (h2 : badC (behind acc) b = true) : lineF a acc (b :: l) = ([], 4) := by rw [lineF, if_neg h, if_pos h2]
theorem lineF_end {a : Nat} {acc l : List Int} (h : ¬ 1024 ≤ a + acc.length) (h2 : ¬ badC (behind acc) 10 = true) : lineF a acc (10 :: l) = (acc.dropLast, 0) := by rw [lineF, if_neg h, if_neg h2, if_pos rfl]
theorem lineF_more {a : Nat} {acc l : List Int} {b : Int} (h : ¬ 1024 ≤ a + acc.length) (h2 : ¬ badC (behind acc) b = true) (h3 : b ≠ 10) : lineF a acc (b :: l) = lineF a (acc ++ [b]) l := by rw [lineF, if_neg h, if_neg h2, if_neg h3]
theorem lineF_len : ∀ (l acc : List Int) (a : Nat), (lineF a acc l).2 = 0 → acc.length ≤ (lineF a acc l).1.length + 1 := by
  intro l acc a h
  obtain ⟨k, _, _, h3, h4⟩ := lineF_ok l acc a (lineF a acc l).1 (by rw [← h])
  rw [← h3, List.length_dropLast, List.length_append]
  omega
/-- One line, byte by byte. -/
theorem go_line : ∀ (l acc : List Int) (r : S) (a : Nat) (i : Int), r.bad = false → r.whole = false → r.inB = false → r.line = acc → r.head = a + acc.length →
    go r l i = if (lineF a acc l).2 ≠ 0 then (zeroR, 0, (lineF a acc l).2)
      else if (lineEnd (nextS r a (lineF a acc l).1) (lineF a acc l).1).1 ≠ 0 then (zeroR, 0, (lineEnd (nextS r a (lineF a acc l).1) (lineF a acc l).1).1)
      else if (lineEnd (nextS r a (lineF a acc l).1) (lineF a acc l).1).2.whole = true then ((lineEnd (nextS r a (lineF a acc l).1) (lineF a acc l).1).2.x, i + ((lineF a acc l).1.length + 2 - acc.length : Nat), 0)
      else go { (lineEnd (nextS r a (lineF a acc l).1) (lineF a acc l).1).2 with bad := false } (l.drop ((lineF a acc l).1.length + 2 - acc.length)) (i + ((lineF a acc l).1.length + 2 - acc.length : Nat)) := by
  intro l
  induction l with
  | nil => intro acc r a i _ _ _ _ _; simp [go, lineF]
  | cons b l ih =>
    intro acc r a i hb hw hi hl hh
    have hst : step r b = heads r b := by unfold step; rw [hi]; simp
    rw [go, put_on hb hw, hst]
    by_cases h1 : 1024 ≤ a + acc.length
    · rw [heads_big (by omega), lineF_big h1]; rfl
    · by_cases h2 : badC (behind acc) b = true
      · rw [heads_bad (by omega) (by rw [hl]; exact h2), lineF_bad h1 h2]; rfl
      · by_cases h3 : b = 10
        · subst h3
          have hla : acc.getLast? = some 13 := by
            cases hbh : behind acc with
            | true => simpa [behind] using hbh
            | false => rw [hbh] at h2; simp [badC] at h2
          obtain ⟨ys, hy⟩ := List.getLast?_eq_some_iff.1 hla
          have hlen : acc.dropLast.length + 2 - acc.length = 1 := by rw [hy]; simp
          rw [heads_end (by omega) (by rw [hl]; exact h2), lineF_end h1 h2, hl]
          have hns : ({ r with head := r.head + 1, line := [], lines := r.lines + 1 } : S) = nextS r a acc.dropLast := by
            have : r.head + 1 = a + acc.dropLast.length + 2 := by rw [hh, hy]; simp; omega
            unfold nextS
            rw [this, ← hb]
          rw [hns]
          show _ = if (0 : Int) ≠ 0 then _ else if (lineEnd (nextS r a acc.dropLast) acc.dropLast).1 ≠ 0 then (zeroR, 0, (lineEnd (nextS r a acc.dropLast) acc.dropLast).1) else if (lineEnd (nextS r a acc.dropLast) acc.dropLast).2.whole = true then ((lineEnd (nextS r a acc.dropLast) acc.dropLast).2.x, i + (acc.dropLast.length + 2 - acc.length : Nat), 0) else go { (lineEnd (nextS r a acc.dropLast) acc.dropLast).2 with bad := false } ((10 :: l).drop (acc.dropLast.length + 2 - acc.length)) (i + (acc.dropLast.length + 2 - acc.length : Nat))
          rw [hlen, List.drop_succ_cons, List.drop_zero]
          refine Eq.trans ?_ (if_neg (by simp : ¬ (0 : Int) ≠ 0)).symm
          generalize lineEnd (nextS r a acc.dropLast) acc.dropLast = q
          obtain ⟨e, q⟩ := q
          by_cases he : e = 0
          · subst he; rfl
          · show (if e ≠ 0 then _ else _) = if e ≠ 0 then _ else _
            rw [if_pos he, if_pos he]
        · rw [heads_more (by omega) (by rw [hl]; exact h2) h3, lineF_more h1 h2 h3]
          have := ih (acc ++ [b]) { r with head := r.head + 1, line := r.line ++ [b], bad := false } a (i + 1) rfl hw hi (by rw [hl]) (by simp only [hh, List.length_append, List.length_singleton]; omega)
          show (if (0 : Int) ≠ 0 then _ else if r.whole = true then _ else go { r with head := r.head + 1, line := r.line ++ [b], bad := decide ((0 : Int) ≠ 0) } l (i + 1)) = _
          rw [if_neg (by simp), if_neg (by rw [hw]; simp)]
          have hd : decide ((0 : Int) ≠ 0) = false := rfl
          rw [hd, this]
          by_cases he : (lineF a (acc ++ [b]) l).2 = 0
          · have hn := lineF_len l (acc ++ [b]) a he
            rw [List.length_append, List.length_singleton] at hn ⊢
            obtain ⟨m, hm⟩ : ∃ m, (lineF a (acc ++ [b]) l).1.length + 2 - acc.length = m + 1 := ⟨(lineF a (acc ++ [b]) l).1.length + 1 - acc.length, by omega⟩
            have hm2 : (lineF a (acc ++ [b]) l).1.length + 2 - (acc.length + 1) = m := by omega
            rw [hm, hm2, List.drop_succ_cons, show (i + 1 + (m : Int)) = i + ((m + 1 : Nat) : Int) by omega]
            rfl
          · rw [if_pos he, if_pos he]
theorem body_ch {r : S} {c : Chunk.Rd} (b : Int) (h : r.ch = some c) : body r b = if (Chunk.put c b).1.1 = true then ((Chunk.put c b).1.2, { r with ch := some (Chunk.put c b).2, x := { r.x with body := (Chunk.put c b).2.b }, whole := true }) else ((Chunk.put c b).1.2, { r with ch := some (Chunk.put c b).2 }) := by
  unfold body; rw [h]
theorem body_len {r : S} (b : Int) (h : r.ch = none) : body r b = (0, { r with x := { r.x with body := r.x.body ++ [b] }, left := r.left - 1, whole := decide (r.left - 1 = 0) }) := by
  unfold body; rw [h]
/-- A body in pieces, byte by byte. -/
theorem go_ch : ∀ (l : List Int) (r : S) (c : Chunk.Rd) (i : Int), r.bad = false → r.whole = false → r.inB = true → r.ch = some c →
    go r l i = if (Chunk.go c l i).2.2 ≠ 0 then (zeroR, 0, (Chunk.go c l i).2.2) else ({ r.x with body := (Chunk.go c l i).1 }, (Chunk.go c l i).2.1, 0) := by
  intro l
  induction l with
  | nil => intro r c i _ _ _ _; simp [go, Chunk.go]
  | cons b l ih =>
    intro r c i hb hw hi hc
    have hst : step r b = body r b := by unfold step; rw [if_pos hi]
    rw [go, put_on hb hw, hst, body_ch b hc, Chunk.go]
    obtain ⟨p, hp⟩ : ∃ p, Chunk.put c b = p := ⟨_, rfl⟩
    rw [hp]
    clear hp
    obtain ⟨⟨d, e⟩, c2⟩ := p
    by_cases he : e = 0
    · subst he
      cases d with
      | true => rfl
      | false =>
        have := ih { r with bad := decide ((0 : Int) ≠ 0), ch := some c2 } c2 (i + 1) rfl hw hi rfl
        refine Eq.trans ?_ this
        show (if (0 : Int) ≠ 0 then _ else if r.whole = true then _ else _) = _
        rw [if_neg (by simp), if_neg (by rw [hw]; simp)]
        rfl
    · cases d with
      | true => simp [he]
      | false => simp [he]
theorem chgo_at : ∀ (l : List Int) (c : Chunk.Rd) (i : Int), Chunk.go c l i = ((Chunk.go c l 0).1, (if (Chunk.go c l 0).2.2 = 0 then i + (Chunk.go c l 0).2.1 else 0), (Chunk.go c l 0).2.2) := by
  intro l
  induction l with
  | nil => intro c i; simp [Chunk.go]
  | cons b l ih =>
    intro c i
    rw [Chunk.go, Chunk.go]
    by_cases h : (Chunk.put c b).1.2 = 0
    · by_cases h2 : (Chunk.put c b).1.1 = true
      · simp [h, h2]
      · have e1 := ih (Chunk.put c b).2 (i + 1)
        have e2 := ih (Chunk.put c b).2 (0 + 1)
        simp only [h, h2, ne_eq, not_true_eq_false, if_false]
        rw [e1, e2]
        generalize Chunk.go (Chunk.put c b).2 l 0 = q
        by_cases hq : q.2.2 = 0
        · simp [hq]; omega
        · simp [hq]
    · simp [h]
/-- A body of so many bytes. -/
theorem go_len : ∀ (l : List Int) (r : S) (m : Nat) (i : Int), r.bad = false → r.whole = false → r.inB = true → r.ch = none → r.left = (m : Int) + 1 →
    go r l i = if l.length < m + 1 then (zeroR, 0, 3) else ({ r.x with body := r.x.body ++ l.take (m + 1) }, i + (m + 1), 0) := by
  intro l
  induction l with
  | nil => intro r m i _ _ _ _ _; simp [go]
  | cons b l ih =>
    intro r m i hb hw hi hc hl
    have hst : step r b = body r b := by unfold step; rw [if_pos hi]
    rw [go, put_on hb hw, hst, body_len b hc]
    cases m with
    | zero =>
      have : decide (r.left - 1 = 0) = true := decide_eq_true (by omega)
      rw [this]
      simp
    | succ m =>
      have hd : decide (r.left - 1 = 0) = false := decide_eq_false (by omega)
      have h2 := ih { r with bad := decide ((0 : Int) ≠ 0), x := { r.x with body := r.x.body ++ [b] }, left := r.left - 1, whole := decide (r.left - 1 = 0) } m (i + 1) rfl hd hi hc (by show r.left - 1 = _; omega)
      show (if (0 : Int) ≠ 0 then _ else if decide (r.left - 1 = 0) = true then _ else _) = _
      rw [if_neg (by simp), if_neg (by rw [hd]; simp)]
      refine Eq.trans h2 ?_
      by_cases hlt : l.length < m + 1
      · rw [if_pos hlt, if_pos (by simp; omega)]
      · rw [if_neg hlt, if_neg (by simp; omega)]
        simp only [List.take_succ_cons, List.append_assoc, List.singleton_append]
        congr 2
        omega
/-- A state at a line's begin. -/
structure Fine (r : S) (a : Nat) : Prop where
  bad : r.bad = false
  whole : r.whole = false
  inB : r.inB = false
  line : r.line = []
  body : r.x.body = []
  ch : r.ch = none
  left : 0 ≤ r.left
  head : r.head = a
theorem readD_pos (v : List Int) : 0 ≤ (readD v).1 := by
  unfold readD
  split
  · rename_i h
    have h1 : v.all digC = true := by
      have := h.1
      unfold okD at this
      simp only [Bool.and_eq_true] at this
      exact this.1.2
    exact valF_pos h1
  · exact Int.le_refl 0
theorem Fine.first {r : S} {a : Nat} (h : Fine r a) (s : List Int) : Fine (first r s).2 a ∧ (first r s).2.lines = r.lines := by
  unfold Wire.first
  split
  · split
    · exact ⟨⟨h.bad, h.whole, h.inB, h.line, h.body, h.ch, h.left, h.head⟩, rfl⟩
    · exact ⟨h, rfl⟩
  · exact ⟨h, rfl⟩
theorem Fine.further {r : S} {a : Nat} (h : Fine r a) (s : List Int) : Fine (further r s).2 a ∧ (further r s).2.lines = r.lines := by
  unfold Wire.further
  split
  · exact ⟨h, rfl⟩
  · rename_i n v _
    have hp := readD_pos v
    split
    · split
      · exact ⟨h, rfl⟩
      · split <;> exact ⟨⟨h.bad, h.whole, h.inB, h.line, h.body, h.ch, h.left, h.head⟩, rfl⟩
    · split
      · split
        · exact ⟨h, rfl⟩
        · split
          · exact ⟨⟨h.bad, h.whole, h.inB, h.line, h.body, h.ch, h.left, h.head⟩, rfl⟩
          · split
            · exact ⟨⟨h.bad, h.whole, h.inB, h.line, h.body, h.ch, h.left, h.head⟩, rfl⟩
            · exact ⟨⟨h.bad, h.whole, h.inB, h.line, h.body, h.ch, hp, h.head⟩, rfl⟩
      · split
        · split
          · exact ⟨h, rfl⟩
          · split <;> exact ⟨⟨h.bad, h.whole, h.inB, h.line, h.body, h.ch, h.left, h.head⟩, rfl⟩
        · exact ⟨h, rfl⟩
theorem Fine.next {r : S} {a : Nat} (h : Fine r a) (s : List Int) : Fine (nextS r a s) (a + s.length + 2) := ⟨rfl, h.whole, h.inB, rfl, h.body, h.ch, h.left, rfl⟩
theorem Fine.lineEnd {r : S} {a : Nat} (h : Fine r a) (s : List Int) (hs : r.lines = 1 ∨ s ≠ []) : Fine (lineEnd r s).2 a ∧ (lineEnd r s).2.lines = r.lines := by
  unfold Wire.lineEnd
  split
  · exact h.first s
  · rename_i h1
    rw [if_neg (hs.resolve_left h1)]
    split
    · exact ⟨h, rfl⟩
    · exact h.further s
theorem ite_ne0 {α : Type} {e : Int} (h : e = 0) (x y : α) : (if e ≠ 0 then x else y) = y := if_neg (by simp [h])
theorem ite_ne1 {α : Type} {e : Int} (h : e ≠ 0) (x y : α) : (if e ≠ 0 then x else y) = x := if_pos h
theorem go_ends {r : S} {a : Nat} (h : Fine r a) (l : List Int) (i : Int) :
    (if (ends r).whole = true then ((ends r).x, i, 0) else go { (ends r) with bad := false } l i) = if (bodyF r l).2.2 ≠ 0 then (zeroR, 0, (bodyF r l).2.2) else ((bodyF r l).1, i + (bodyF r l).2.1, 0) := by
  unfold ends bodyF
  by_cases hse : r.se = true
  · rw [if_pos hse, if_pos hse]
    show (if r.whole = true then _ else go { r with inB := true, ch := some ⟨2048, 0, 0, []⟩, bad := false } l i) = _
    rw [if_neg (by rw [h.whole]; simp), go_ch l { r with inB := true, ch := some ⟨2048, 0, 0, []⟩, bad := false } ⟨2048, 0, 0, []⟩ i rfl h.whole rfl rfl, chgo_at]
    have hw : Chunk.whole l 2048 = Chunk.go ⟨2048, 0, 0, []⟩ l 0 := by unfold Chunk.whole; rw [if_neg (by omega)]
    rw [hw]
    generalize Chunk.go ⟨2048, 0, 0, []⟩ l 0 = q
    by_cases hq : q.2.2 = 0
    · simp [hq]
    · simp [hq]
  · rw [if_neg hse, if_neg hse]
    have hl := h.left
    by_cases h0 : r.left = 0
    · have hd : decide (r.left = 0) = true := decide_eq_true h0
      have hnl : ¬ (l.length : Int) < r.left := by omega
      rw [if_neg hnl]
      show (if decide (r.left = 0) = true then (r.x, i, (0 : Int)) else _) = _
      rw [if_pos hd]
      simp only [ne_eq, not_true_eq_false, if_false, h0]
      have hb : r.x = { r.x with body := [] } := by rw [← h.body]
      show (r.x, i, (0 : Int)) = ({ r.x with body := l.take (0 : Int).toNat }, i + 0, 0)
      rw [Int.add_zero]
      simp only [Int.toNat_zero, List.take_zero]
      rw [← hb]
    · have hd : decide (r.left = 0) = false := decide_eq_false h0
      show (if decide (r.left = 0) = true then _ else go { r with inB := true, whole := decide (r.left = 0), bad := false } l i) = _
      rw [if_neg (by rw [hd]; simp), go_len l { r with inB := true, whole := decide (r.left = 0), bad := false } (r.left.toNat - 1) i rfl hd rfl h.ch (by show r.left = _; omega)]
      by_cases hlt : (l.length : Int) < r.left
      · rw [if_pos (by omega), if_pos hlt]; simp
      · rw [if_neg (by omega), if_neg hlt]
        simp only [ne_eq, not_true_eq_false, if_false, h.body, List.nil_append, show r.left.toNat - 1 + 1 = r.left.toNat by omega]
        congr 2
        omega
theorem go_doc : ∀ (f : Nat) (r : S) (a : Nat) (l : List Int), Fine r a → l.length < f → go r l a = docGo f r a l := by
  intro f
  induction f with
  | zero => intro r a l _ h; omega
  | succ f ih =>
    intro r a l h hf
    rw [go_line l [] r a a h.bad h.whole h.inB h.line (by rw [h.head]; rfl), docGo]
    by_cases he : (lineF a [] l).2 = 0
    · rw [ite_ne0 he, ite_ne0 he]
      obtain ⟨hd1, hd2⟩ := lineF_drop (l := l) (a := a) (s := (lineF a [] l).1) (by rw [← he])
      generalize (lineF a [] l).1 = s at *
      simp only [List.length_nil, Nat.sub_zero]
      by_cases hs : r.lines ≠ 0 ∧ s = []
      · obtain ⟨h1, rfl⟩ := hs
        have hle : lineEnd (nextS r a []) [] = (0, ends (nextS r a [])) := by
          unfold lineEnd
          rw [if_neg (by show ¬ r.lines + 1 = 1; omega), if_pos rfl]
        rw [hle, ite_ne0 rfl]
        refine Eq.trans ?_ (if_pos ⟨h1, rfl⟩).symm
        have hg := go_ends (h.next []) (l.drop 2) ((a : Int) + 2)
        have hb : bodyF (nextS r a []) (l.drop 2) = bodyF r (l.drop 2) := rfl
        rw [hb] at hg
        exact hg
      · rw [if_neg hs]
        have hs2 : (nextS r a s).lines = 1 ∨ s ≠ [] := by
          by_cases h0 : r.lines = 0
          · exact .inl (by show r.lines + 1 = 1; omega)
          · exact .inr (fun e => hs ⟨h0, e⟩)
        obtain ⟨hF, _⟩ := (h.next s).lineEnd s hs2
        generalize lineEnd (nextS r a s) s = q at *
        by_cases hq : q.1 = 0
        · rw [ite_ne0 hq, ite_ne0 hq, if_neg (by rw [hF.whole]; simp)]
          have hbb : ({ q.2 with bad := false } : S) = q.2 := by rw [← hF.bad]
          rw [hbb, ← ih q.2 (a + s.length + 2) _ hF (by rw [List.length_drop]; omega)]
          congr 1
        · rw [ite_ne1 hq, ite_ne1 hq]
    · rw [ite_ne1 he, ite_ne1 he]
theorem Fine.new : Fine new 0 := ⟨rfl, rfl, rfl, rfl, rfl, rfl, Int.le_refl 0, rfl⟩
theorem whole_doc (l : List Int) : whole l = docWhole l := go_doc (l.length + 1) new 0 l Fine.new (Nat.lt_succ_self _)
end Wire
end Go.Proofs.YtibegbmehpggbaaDoor
