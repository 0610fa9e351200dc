/-
  The document's disk, plainly: all writes that are there; it answers as the plain disk does.
-/
import Derived.Test.YtmkpdoljaccpaaaDiskP
namespace Go.Proofs.Ytmkpdoljaccpaaa
open Go.Disk (St)
set_option linter.unusedVariables false
set_option linter.unusedSimpArgs false
structure Wr where
  at_ : Int
  b : List Int
  sure : Bool
structure RefD where
  n : Int
  l : List Wr
  left : Int
  power : Bool
/-- Whether one of them is of this sector. -/
def hasAt (l : List Wr) (a : Int) : Bool := l.any fun w => w.at_ == a
/-- The last write of a sector counts. -/
def bytesOf : List Wr → Int → List Int
  | [], _ => Disk.zsec
  | w :: r, a => if hasAt r a = true then bytesOf r a else if w.at_ = a then w.b else Disk.zsec
def settled : List Wr → List Wr
  | [] => []
  | w :: r => if hasAt r w.at_ = true then settled r else { w with sure := true } :: settled r
def left9 (keep : List Bool) : Nat → List Wr → List Wr
  | _, [] => []
  | k, w :: r => if w.sure = true then w :: left9 keep k r else if keep.getD k false = true then w :: left9 keep (k + 1) r else left9 keep (k + 1) r
theorem hasAt_cons (w : Wr) (r : List Wr) (a : Int) : hasAt (w :: r) a = (w.at_ == a || hasAt r a) := rfl
theorem hasAt_app (l r : List Wr) (a : Int) : hasAt (l ++ r) a = (hasAt l a || hasAt r a) := by simp [hasAt, List.any_append]
theorem bytesOf_not {l : List Wr} {a : Int} (h : hasAt l a = false) : bytesOf l a = Disk.zsec := by
  cases l with
  | nil => rfl
  | cons w r =>
    rw [hasAt_cons, Bool.or_eq_false_iff] at h
    rw [bytesOf, h.2, if_neg (by simp), if_neg (by simpa using h.1)]
theorem bytesOf_app (l r : List Wr) (a : Int) : bytesOf (l ++ r) a = if hasAt r a = true then bytesOf r a else bytesOf l a := by
  induction l with
  | nil =>
    rw [List.nil_append]
    by_cases h : hasAt r a = true
    · rw [if_pos h]
    · rw [if_neg h, bytesOf_not (by simpa using h)]; rfl
  | cons w l ih =>
    rw [List.cons_append, bytesOf, hasAt_app, ih]
    by_cases h : hasAt r a = true
    · simp [h]
    · have h' : hasAt r a = false := by simpa using h
      simp only [h', Bool.or_false, Bool.false_eq_true, if_false]
      rw [bytesOf]
theorem settled_has (l : List Wr) (a : Int) : hasAt (settled l) a = hasAt l a := by
  induction l with
  | nil => rfl
  | cons w r ih =>
    rw [settled]
    by_cases h : hasAt r w.at_ = true
    · rw [if_pos h, ih, hasAt_cons]
      by_cases hw : w.at_ = a
      · subst hw; simp [h]
      · simp [hw]
    · rw [if_neg h, hasAt_cons, hasAt_cons, ih]
theorem settled_bytes (l : List Wr) (a : Int) : bytesOf (settled l) a = bytesOf l a := by
  induction l with
  | nil => rfl
  | cons w r ih =>
    rw [settled]
    by_cases h : hasAt r w.at_ = true
    · rw [if_pos h, ih, bytesOf]
      by_cases ha : hasAt r a = true
      · rw [if_pos ha]
      · have hne : w.at_ ≠ a := fun e => by rw [e] at h; exact ha h
        rw [if_neg ha, if_neg hne, bytesOf_not (by simpa using ha)]
    · rw [if_neg h, bytesOf, bytesOf, settled_has, ih]
theorem settled_sure (l : List Wr) : ∀ w ∈ settled l, w.sure = true := by
  induction l with
  | nil => intro w hw; cases hw
  | cons w r ih =>
    intro v hv
    rw [settled] at hv
    split at hv
    · exact ih v hv
    · rcases List.mem_cons.1 hv with rfl | hv
      · rfl
      · exact ih v hv
/-- Writes that are open. -/
def unsure (l : List (Int × List Int)) : List Wr := l.map fun p => ⟨p.1, p.2, false⟩
/-- Bytes behind open writes. -/
theorem apply_bytes (S : List Wr) (n : Nat) : ∀ (l : List (Int × List Int)) (f : List (List Int)), f.length = n → (∀ p ∈ l, 0 ≤ p.1 ∧ p.1 < n) → ∀ a : Nat, a < n → (apply f l)[a]? = some (if hasAt (unsure l) a = true then bytesOf (unsure l) a else f.getD a []) := by
  intro l
  induction l with
  | nil => intro f hf _ a ha; show f[a]? = some (f.getD a []); rw [List.getD_eq_getElem?_getD, List.getElem?_eq_getElem (by omega)]; rfl
  | cons p r ih =>
    intro f hf hp a ha
    obtain ⟨h0, h1⟩ := hp p (List.mem_cons_self ..)
    rw [apply_cons, ih _ (by rw [List.length_set]; exact hf) (fun q hq => hp q (List.mem_cons_of_mem _ hq)) a ha]
    show _ = some (if hasAt (⟨p.1, p.2, false⟩ :: unsure r) a = true then bytesOf (⟨p.1, p.2, false⟩ :: unsure r) a else f.getD a [])
    rw [hasAt_cons, bytesOf]
    by_cases hr : hasAt (unsure r) a = true
    · simp [hr]
    · have hr' : hasAt (unsure r) a = false := by simpa using hr
      by_cases hpa : p.1 = a
      · have : p.1.toNat = a := by omega
        simp [hr', hpa, List.getD_eq_getElem?_getD, List.getElem?_set_self, show a < f.length by omega]
      · have : p.1.toNat ≠ a := by omega
        simp [hr', hpa, List.getD_eq_getElem?_getD, List.getElem?_set_ne this]
theorem keep_bytes (keep : List Bool) (n : Nat) : ∀ (l : List (Int × List Int)) (k : Nat) (f : List (List Int)), f.length = n → (∀ p ∈ l, 0 ≤ p.1 ∧ p.1 < n) → ∀ a : Nat, a < n → (St.keep keep k f l)[a]? = some (if hasAt (left9 keep k (unsure l)) a = true then bytesOf (left9 keep k (unsure l)) a else f.getD a []) := by
  intro l
  induction l with
  | nil => intro k f hf _ a ha; show f[a]? = some (f.getD a []); rw [List.getD_eq_getElem?_getD, List.getElem?_eq_getElem (by omega)]; rfl
  | cons p r ih =>
    intro k f hf hp a ha
    obtain ⟨h0, h1⟩ := hp p (List.mem_cons_self ..)
    have e : unsure (p :: r) = ⟨p.1, p.2, false⟩ :: unsure r := rfl
    have e9 : left9 keep k (⟨p.1, p.2, false⟩ :: unsure r) = if keep.getD k false = true then ⟨p.1, p.2, false⟩ :: left9 keep (k + 1) (unsure r) else left9 keep (k + 1) (unsure r) := by
      rw [left9, if_neg (show ¬ ((⟨p.1, p.2, false⟩ : Wr).sure = true) from Bool.false_ne_true)]
    rw [St.keep, e, e9]
    by_cases hk : keep.getD k false = true
    · rw [if_pos hk, if_pos hk, ih (k + 1) _ (by rw [List.length_set]; exact hf) (fun q hq => hp q (List.mem_cons_of_mem _ hq)) a ha, hasAt_cons, bytesOf]
      by_cases hr : hasAt (left9 keep (k + 1) (unsure r)) a = true
      · simp [hr]
      · have hr' : hasAt (left9 keep (k + 1) (unsure r)) a = false := by simpa using hr
        by_cases hpa : p.1 = a
        · have : p.1.toNat = a := by omega
          simp [hr', hpa, List.getD_eq_getElem?_getD, List.getElem?_set_self, show a < f.length by omega]
        · have : p.1.toNat ≠ a := by omega
          simp [hr', hpa, List.getD_eq_getElem?_getD, List.getElem?_set_ne this]
    · rw [if_neg hk, if_neg hk]
      exact ih (k + 1) f hf (fun q hq => hp q (List.mem_cons_of_mem _ hq)) a ha
theorem left9_sure (keep : List Bool) (U : List Wr) : ∀ (S : List Wr) (k : Nat), (∀ w ∈ S, w.sure = true) → left9 keep k (S ++ U) = S ++ left9 keep k U
  | [], k, h => rfl
  | w :: S, k, h => by
    rw [List.cons_append, left9, if_pos (h w (List.mem_cons_self ..)), left9_sure keep U S k (fun x hx => h x (List.mem_cons_of_mem _ hx))]; rfl
def RefD.goes (r : RefD) : Bool × RefD := if r.left = 0 then (false, { r with power := false }) else (true, if 0 < r.left then { r with left := r.left - 1 } else r)
def RefD.write (r : RefD) (a : Int) (b : List Int) : Int × RefD := if r.power = false then (14, r) else if a < 0 ∨ r.n ≤ a ∨ 64 < b.length then (2, r) else if r.goes.1 = true then (0, { r.goes.2 with l := r.l ++ [⟨a, Disk.pad b, false⟩] }) else (14, r.goes.2)
def RefD.sync (r : RefD) : Int × RefD := if r.power = false then (14, r) else if r.goes.1 = true then (0, { r.goes.2 with l := settled r.l }) else (14, r.goes.2)
def RefD.arm (r : RefD) (n : Int) : Int × RefD := if r.power = false then (14, r) else if n < 0 then (2, r) else (0, { r with left := n })
def RefD.crash (r : RefD) (keep : List Bool) : RefD := { r with l := settled (left9 keep 0 r.l), left := -1, power := true }
def RefD.read (r : RefD) (a : Int) : List Int × Int := if r.power = false then ([], 14) else if a < 0 ∨ r.n ≤ a then ([], 2) else (bytesOf r.l a, 0)
def RefD.opens (r : RefD) : Nat := r.l.countP fun w => !w.sure
/-- The two disks are alike. -/
structure Sim (s : St) (r : RefD) (S : List Wr) : Prop where
  l : r.l = S ++ unsure s.opn
  sure : ∀ w ∈ S, w.sure = true
  n : r.n = s.now.length
  now : s.now = apply s.fast s.opn
  len : s.fast.length = s.now.length
  fast : ∀ a : Nat, a < s.now.length → s.fast[a]? = some (bytesOf S a)
  off : s.off = !r.power
  armed : s.armed = true → r.left = s.left ∧ 0 ≤ s.left
  free : s.armed = false → r.left = -1
  at_ : ∀ p ∈ s.opn, 0 ≤ p.1 ∧ p.1 < (s.now.length : Int)
section
variable {s : St} {r : RefD} {S : List Wr}
theorem Sim.bytes (h : Sim s r S) {a : Nat} (ha : a < s.now.length) : s.now[a]? = some (bytesOf r.l a) := by
  rw [h.l, bytesOf_app]
  have h1 := apply_bytes S s.now.length s.opn s.fast h.len h.at_ a ha
  rw [← h.now] at h1
  rw [h1]
  have h2 := h.fast a ha
  congr 1
  split
  · rfl
  · rw [List.getD_eq_getElem?_getD, h2]; rfl
theorem Sim.read (h : Sim s r S) (a : Int) : s.read a = r.read a := by
  unfold St.read RefD.read
  rw [h.off]
  cases hp : r.power with
  | false => simp
  | true =>
    rw [if_neg (by simp), if_neg (by simp)]
    unfold St.at_
    by_cases h0 : 0 ≤ a
    · rw [if_pos h0]
      by_cases h1 : a < s.now.length
      · rw [h.bytes (a := a.toNat) (by omega), if_neg (by rw [h.n]; omega)]
        simp only
        rw [show ((a.toNat : Nat) : Int) = a by omega]
      · rw [List.getElem?_eq_none (by omega), if_pos (by rw [h.n]; omega)]
    · rw [if_neg h0, if_pos (by omega)]
theorem Sim.opens (h : Sim s r S) : r.opens = s.opn.length := by
  unfold RefD.opens
  rw [h.l, List.countP_append, List.countP_eq_zero.2 (fun w hw => by simp [h.sure w hw])]
  unfold unsure
  rw [List.countP_map]
  simp
/-- A step: both go on, or both stop. -/
theorem Sim.step (h : Sim s r S) (hp : r.power = true) : s.step.1 = r.goes.1 ∧ Sim s.step.2 r.goes.2 S ∧ r.goes.2.l = r.l ∧ r.goes.2.n = r.n ∧ s.step.2.now = s.now ∧ s.step.2.fast = s.fast ∧ s.step.2.opn = s.opn := by
  cases ha : s.armed with
  | false =>
    have e := h.free ha
    have es : s.step = (true, s) := by simp [St.step, ha]
    have er : r.goes = (true, r) := by simp [RefD.goes, e]
    rw [es, er]
    exact ⟨rfl, h, rfl, rfl, rfl, rfl, rfl⟩
  | true =>
    obtain ⟨e1, e2⟩ := h.armed ha
    by_cases h0 : s.left = 0
    · have es : s.step = (false, { s with off := true }) := by simp [St.step, ha, h0]
      have er : r.goes = (false, { r with power := false }) := by simp [RefD.goes, e1, h0]
      rw [es, er]
      exact ⟨rfl, ⟨h.l, h.sure, h.n, h.now, h.len, h.fast, rfl, fun _ => ⟨e1, e2⟩, fun hh => Bool.noConfusion (ha.symm.trans hh), h.at_⟩, rfl, rfl, rfl, rfl, rfl⟩
    · have es : s.step = (true, { s with left := s.left - 1 }) := by simp [St.step, ha, h0]
      have er : r.goes = (true, { r with left := r.left - 1 }) := by unfold RefD.goes; rw [if_neg (by omega), if_pos (by omega)]
      rw [es, er]
      exact ⟨rfl, ⟨h.l, h.sure, h.n, h.now, h.len, h.fast, h.off, fun _ => ⟨by show r.left - 1 = s.left - 1; omega, by show 0 ≤ s.left - 1; omega⟩, fun hh => Bool.noConfusion (ha.symm.trans hh), h.at_⟩, rfl, rfl, rfl, rfl, rfl⟩
theorem Sim.arm (h : Sim s r S) (n : Int) : (s.arm n).1 = (r.arm n).1 ∧ Sim (s.arm n).2 (r.arm n).2 S := by
  have ho := h.off
  cases hp : r.power with
  | false =>
    rw [hp] at ho
    have es : s.arm n = (14, s) := by simp [St.arm, ho]
    have er : r.arm n = (14, r) := by simp [RefD.arm, hp]
    rw [es, er]; exact ⟨rfl, h⟩
  | true =>
    rw [hp] at ho
    by_cases h0 : n < 0
    · have es : s.arm n = (2, s) := by simp [St.arm, ho, h0]
      have er : r.arm n = (2, r) := by simp [RefD.arm, hp, h0]
      rw [es, er]; exact ⟨rfl, h⟩
    · have es : s.arm n = (0, { s with armed := true, left := n }) := by simp [St.arm, ho, h0]
      have er : r.arm n = (0, { r with left := n }) := by simp [RefD.arm, hp, h0]
      rw [es, er]
      exact ⟨rfl, ⟨h.l, h.sure, h.n, h.now, h.len, h.fast, h.off, fun _ => ⟨rfl, by show 0 ≤ n; omega⟩, fun hh => (by cases hh), h.at_⟩⟩
theorem Sim.write (h : Sim s r S) (a : Int) (b : List Int) : (s.write a b).1 = (r.write a b).1 ∧ Sim (s.write a b).2 (r.write a b).2 S := by
  have ho := h.off
  cases hp : r.power with
  | false =>
    rw [hp] at ho
    have es : s.write a b = (14, s) := by simp [St.write, ho]
    have er : r.write a b = (14, r) := by simp [RefD.write, hp]
    rw [es, er]; exact ⟨rfl, h⟩
  | true =>
    rw [hp] at ho
    have ho2 : ¬ s.off = true := by rw [ho]; simp
    have hp2 : ¬ r.power = false := by rw [hp]; simp
    by_cases hb : a < 0 ∨ (s.now.length : Int) ≤ a ∨ 64 < b.length
    · have es : s.write a b = (2, s) := by unfold St.write; rw [if_neg ho2, if_pos hb]
      have er : r.write a b = (2, r) := by unfold RefD.write; rw [if_neg hp2, if_pos (by rw [h.n]; exact hb)]
      rw [es, er]; exact ⟨rfl, h⟩
    · obtain ⟨h1, h2, h3, h4, h6, h7, h8⟩ := h.step hp
      cases hs : s.step.1 with
      | false =>
        have es : s.write a b = (14, s.step.2) := by unfold St.write; rw [if_neg ho2, if_neg hb, if_neg (by rw [hs]; simp)]
        have er : r.write a b = (14, r.goes.2) := by unfold RefD.write; rw [if_neg hp2, if_neg (by rw [h.n]; exact hb), if_neg (by rw [← h1, hs]; simp)]
        rw [es, er]; exact ⟨rfl, h2⟩
      | true =>
        have es : s.write a b = (0, { s.step.2 with now := s.now.set a.toNat (Disk.pad b), opn := s.opn ++ [(a, Disk.pad b)] }) := by unfold St.write; rw [if_neg ho2, if_neg hb, if_pos hs]
        have er : r.write a b = (0, { r.goes.2 with l := r.l ++ [⟨a, Disk.pad b, false⟩] }) := by unfold RefD.write; rw [if_neg hp2, if_neg (by rw [h.n]; exact hb), if_pos (by rw [← h1, hs])]
        rw [es, er]
        refine ⟨rfl, ⟨?_, h2.sure, ?_, ?_, ?_, ?_, h2.off, h2.armed, h2.free, ?_⟩⟩
        · show r.l ++ [_] = S ++ unsure (s.opn ++ [_])
          rw [h.l]; simp [unsure]
        · show r.goes.2.n = ((s.now.set _ _).length : Int)
          rw [List.length_set, h4]; exact h.n
        · show s.now.set _ _ = apply s.step.2.fast (s.opn ++ [_])
          rw [apply_snoc, h7, ← h.now]
        · show s.step.2.fast.length = (s.now.set _ _).length
          rw [List.length_set, h7]; exact h.len
        · intro x hx
          have hx' : x < s.now.length := by simpa using hx
          show s.step.2.fast[x]? = _
          rw [h7]; exact h.fast x hx'
        · intro p hp2
          show 0 ≤ p.1 ∧ p.1 < ((s.now.set _ _).length : Int)
          rw [List.length_set]
          rcases List.mem_append.1 hp2 with hp2 | hp2
          · exact h.at_ p hp2
          · rw [List.mem_singleton] at hp2; subst hp2; simp only; omega
theorem Sim.sync (h : Sim s r S) : s.sync.1 = r.sync.1 ∧ ∃ S', Sim s.sync.2 r.sync.2 S' := by
  have ho := h.off
  cases hp : r.power with
  | false =>
    rw [hp] at ho
    have es : s.sync = (14, s) := by simp [St.sync, ho]
    have er : r.sync = (14, r) := by simp [RefD.sync, hp]
    rw [es, er]; exact ⟨rfl, S, h⟩
  | true =>
    rw [hp] at ho
    have ho2 : ¬ s.off = true := by rw [ho]; simp
    have hp2 : ¬ r.power = false := by rw [hp]; simp
    obtain ⟨h1, h2, h3, h4, h6, h7, h8⟩ := h.step hp
    cases hs : s.step.1 with
    | false =>
      have es : s.sync = (14, s.step.2) := by unfold St.sync; rw [if_neg ho2, if_neg (by rw [hs]; simp)]
      have er : r.sync = (14, r.goes.2) := by unfold RefD.sync; rw [if_neg hp2, if_neg (by rw [← h1, hs]; simp)]
      rw [es, er]; exact ⟨rfl, S, h2⟩
    | true =>
      have es : s.sync = (0, { s.step.2 with fast := s.now, opn := [] }) := by unfold St.sync; rw [if_neg ho2, if_pos hs, settle_now h.now]
      have er : r.sync = (0, { r.goes.2 with l := settled r.l }) := by unfold RefD.sync; rw [if_neg hp2, if_pos (by rw [← h1, hs])]
      rw [es, er]
      refine ⟨rfl, settled r.l, ⟨?_, settled_sure _, ?_, ?_, ?_, ?_, h2.off, h2.armed, h2.free, fun p hp => (by cases hp)⟩⟩
      · show settled r.l = settled r.l ++ unsure []
        simp [unsure]
      · show r.goes.2.n = (s.step.2.now.length : Int)
        rw [h6, h4]; exact h.n
      · show s.step.2.now = apply s.now []
        rw [h6]; rfl
      · show s.now.length = s.step.2.now.length
        rw [h6]
      · intro x hx
        have hx' : x < s.now.length := by rw [← h6]; exact hx
        show s.now[x]? = _
        rw [settled_bytes]; exact h.bytes hx'
theorem Sim.crash (h : Sim s r S) (keep : List Bool) : ∃ S', Sim (s.crash keep) (r.crash keep) S' := by
  have hb := settle_back (keep := keep) h.now rfl
  have es : s.crash keep = { fast := St.keep keep 0 s.fast s.opn, now := St.keep keep 0 s.fast s.opn, opn := [], armed := false, left := 0, off := false } := by unfold St.crash; rw [hb]
  have hkl : (St.keep keep 0 s.fast s.opn).length = s.now.length := by rw [Disk.keep_len, h.len]
  refine ⟨settled (left9 keep 0 r.l), ?_⟩
  rw [es]
  unfold RefD.crash
  refine ⟨?_, settled_sure _, ?_, rfl, rfl, ?_, rfl, fun hh => (by cases hh), fun _ => rfl, fun p hp => (by cases hp)⟩
  · show settled _ = settled _ ++ unsure []
    simp [unsure]
  · show r.n = ((St.keep keep 0 s.fast s.opn).length : Int)
    rw [hkl]; exact h.n
  · intro x hx
    have hx' : x < s.now.length := by rw [← hkl]; exact hx
    show (St.keep keep 0 s.fast s.opn)[x]? = _
    rw [settled_bytes, h.l, left9_sure keep _ S 0 h.sure, bytesOf_app, keep_bytes keep s.now.length s.opn 0 s.fast h.len h.at_ x hx']
    have h2 := h.fast x hx'
    congr 1
    split
    · rfl
    · rw [List.getD_eq_getElem?_getD, h2]; rfl
theorem Sim.start (n : Nat) : Sim (fresh n) ⟨n, [], -1, true⟩ [] := by
  refine ⟨rfl, fun w hw => (by cases hw), by simp [fresh], rfl, by simp [fresh], fun a ha => ?_, rfl, fun h => (by cases h), fun _ => rfl, fun p hp => (by cases hp)⟩
  have : a < n := by simpa [fresh] using ha
  simp [fresh, bytesOf, this]
end
end Go.Proofs.Ytmkpdoljaccpaaa
