/-
  Layer 9, plainly: what a row of calls leaves on a disk whose power is on.
-/
import Derived.Test.YtbiohidelhfaiaaDo
namespace Go.Proofs.Ytbiohidelhfaiaa
open Go.Disk (St)
set_option linter.unusedVariables false
set_option linter.unusedSimpArgs false
def apply (f : List (List Int)) (l : List (Int × List Int)) : List (List Int) := l.foldl (fun f p => f.set p.1.toNat p.2) f
theorem apply_snoc (f : List (List Int)) (l : List (Int × List Int)) (p : Int × List Int) : apply f (l ++ [p]) = (apply f l).set p.1.toNat p.2 := by simp [apply, List.foldl_append]
theorem apply_cons (f : List (List Int)) (l : List (Int × List Int)) (p : Int × List Int) : apply f (p :: l) = apply (f.set p.1.toNat p.2) l := rfl
theorem apply_len (l : List (Int × List Int)) : ∀ f, (apply f l).length = f.length := by
  induction l with
  | nil => intro f; rfl
  | cons p r ih => intro f; rw [apply_cons, ih, List.length_set]
theorem apply_not (i : Nat) (l : List (Int × List Int)) : ∀ f, (∀ p ∈ l, p.1.toNat ≠ i) → (apply f l)[i]? = f[i]? := by
  induction l with
  | nil => intro f _; rfl
  | cons p r ih =>
    intro f h
    rw [apply_cons, ih _ (fun q hq => h q (List.mem_cons_of_mem _ hq)), List.getElem?_set_ne (h p (List.mem_cons_self ..))]
theorem keep_not (keep : List Bool) (i : Nat) (l : List (Int × List Int)) : ∀ k f, (∀ p ∈ l, p.1.toNat ≠ i) → (St.keep keep k f l)[i]? = f[i]? := by
  induction l with
  | nil => intro k f _; rfl
  | cons p r ih =>
    intro k f h
    rw [St.keep, ih _ _ (fun q hq => h q (List.mem_cons_of_mem _ hq))]
    split
    · rw [List.getElem?_set_ne (h p (List.mem_cons_self ..))]
    · rfl
theorem settle_not (now : List (List Int)) (i : Nat) (l : List (Int × List Int)) : ∀ f, (∀ p ∈ l, p.1.toNat ≠ i) → (St.settle now f l)[i]? = f[i]? := by
  induction l with
  | nil => intro f _; rfl
  | cons p r ih =>
    intro f h
    show (St.settle now (f.set p.1.toNat (now.getD p.1.toNat [])) r)[i]? = _
    rw [ih _ (fun q hq => h q (List.mem_cons_of_mem _ hq)), List.getElem?_set_ne (h p (List.mem_cons_self ..))]
theorem settle_in (now : List (List Int)) (i : Nat) (l : List (Int × List Int)) : ∀ f, i < f.length → ((∃ p ∈ l, p.1.toNat = i) ∨ f[i]? = some (now.getD i [])) → (St.settle now f l)[i]? = some (now.getD i []) := by
  induction l with
  | nil => intro f hi h; rcases h with ⟨p, h, _⟩ | h; cases h; exact h
  | cons p r ih =>
    intro f hi h
    show (St.settle now (f.set p.1.toNat (now.getD p.1.toNat [])) r)[i]? = _
    refine ih _ (by rw [List.length_set]; exact hi) ?_
    by_cases hp : p.1.toNat = i
    · right; rw [hp, List.getElem?_set_self hi]
    · rcases h with ⟨q, hq, he⟩ | h
      · rcases List.mem_cons.1 hq with rfl | hq
        · exact (hp he).elim
        · exact .inl ⟨q, hq, he⟩
      · right; rw [List.getElem?_set_ne hp]; exact h
/-- What is now is what was fast, with what was written on it. -/
structure Inv (s : St) : Prop where
  ok : s.Ok
  n8 : s.now.length = 8
  off : s.off = false
  armed : s.armed = false
  now : s.now = apply s.fast s.opn
theorem getD_some {l : List (List Int)} {i : Nat} (h : i < l.length) : l[i]? = some (l.getD i []) := by rw [List.getD_eq_getElem?_getD, List.getElem?_eq_getElem h]; rfl
theorem settle_now {now f : List (List Int)} {l : List (Int × List Int)} (h : now = apply f l) : St.settle now f l = now := by
  have hl : now.length = f.length := by rw [h, apply_len]
  apply List.ext_getElem?
  intro i
  by_cases hi : i < f.length
  · by_cases hm : ∃ p ∈ l, p.1.toNat = i
    · rw [settle_in now i l f hi (.inl hm), getD_some (by omega)]
    · have hm' : ∀ p ∈ l, p.1.toNat ≠ i := fun p hp he => hm ⟨p, hp, he⟩
      rw [settle_not now i l f hm']
      conv => rhs; rw [h, apply_not i l f hm']
  · rw [List.getElem?_eq_none (by rw [Disk.settle_len]; omega), List.getElem?_eq_none (by omega)]
theorem settle_back {F now f : List (List Int)} {l : List (Int × List Int)} {keep : List Bool} (h : now = apply f l) (hF : F = St.keep keep 0 f l) : St.settle F now l = F := by
  have hl : now.length = f.length := by rw [h, apply_len]
  have hlF : F.length = f.length := by rw [hF, Disk.keep_len]
  apply List.ext_getElem?
  intro i
  by_cases hi : i < f.length
  · by_cases hm : ∃ p ∈ l, p.1.toNat = i
    · rw [settle_in F i l now (by omega) (.inl hm), getD_some (by omega)]
    · have hm' : ∀ p ∈ l, p.1.toNat ≠ i := fun p hp he => hm ⟨p, hp, he⟩
      rw [settle_not F i l now hm', h, apply_not i l f hm', hF, keep_not keep i l 0 f hm']
  · rw [List.getElem?_eq_none (by rw [Disk.settle_len]; omega), List.getElem?_eq_none (by omega)]
theorem Inv.sync {s : St} (h : Inv s) : s.sync = (0, { s with fast := s.now, opn := [] }) := by
  unfold St.sync St.step
  simp [h.off, h.armed, settle_now h.now]
theorem Inv.crash {s : St} (h : Inv s) (keep : List Bool) : s.crash keep = { fast := St.keep keep 0 s.fast s.opn, now := St.keep keep 0 s.fast s.opn, opn := [], armed := false, left := 0, off := false } := by
  unfold St.crash
  rw [settle_back h.now rfl]
theorem Inv.write {s : St} (h : Inv s) (i : Int) (b : List Int) (h1 : 0 ≤ i) (h2 : i < 8) (hb : b.length ≤ 64) : s.write i b = (0, { s with now := s.now.set i.toNat (Disk.pad b), opn := s.opn ++ [(i, Disk.pad b)] }) := by
  have := h.n8
  unfold St.write St.step
  simp [h.off, h.armed]
  omega
theorem pad_64 {b : List Int} (hb : b.length ≤ 64) : (Disk.pad b).length = 64 := by
  have := Disk.zsec_len
  simp [Disk.pad]; omega
theorem Inv.sync_inv {s : St} (h : Inv s) : Inv s.sync.2 := by
  rw [h.sync]
  exact ⟨⟨rfl, h.ok.pos, h.ok.most, h.ok.n64, h.ok.n64, fun p hp => by (cases hp), h.ok.left0, h.ok.left1⟩, h.n8, h.off, h.armed, rfl⟩
theorem Inv.crash_inv {s : St} (h : Inv s) (keep : List Bool) : Inv (s.crash keep) := by
  rw [h.crash]
  have hl : (St.keep keep 0 s.fast s.opn).length = s.now.length := by rw [Disk.keep_len, h.ok.len]
  have h64 := Disk.keep_64 keep s.opn 0 s.fast (fun p hp => (h.ok.o64 p hp).1) h.ok.f64
  exact ⟨⟨rfl, by show 1 ≤ (St.keep keep 0 s.fast s.opn).length; rw [hl]; exact h.ok.pos, by show (St.keep keep 0 s.fast s.opn).length ≤ 4096; rw [hl]; exact h.ok.most, h64, h64, fun p hp => by (cases hp), by show (0 : Int) ≤ 0; omega, by show (0 : Int) ≤ 9223372036854775807; omega⟩, by show (St.keep keep 0 s.fast s.opn).length = 8; rw [hl]; exact h.n8, rfl, rfl, rfl⟩
theorem Inv.write_inv {s : St} (h : Inv s) (i : Int) (b : List Int) (h1 : 0 ≤ i) (h2 : i < 8) (hb : b.length ≤ 64) : Inv (s.write i b).2 := by
  rw [h.write i b h1 h2 hb]
  have h8 := h.n8
  refine ⟨⟨?_, ?_, ?_, h.ok.f64, ?_, ?_, h.ok.left0, h.ok.left1⟩, ?_, h.off, h.armed, ?_⟩
  · show s.fast.length = (s.now.set _ _).length; rw [List.length_set]; exact h.ok.len
  · show 1 ≤ (s.now.set _ _).length; rw [List.length_set]; exact h.ok.pos
  · show (s.now.set _ _).length ≤ 4096; rw [List.length_set]; exact h.ok.most
  · intro x hx
    rcases List.mem_or_eq_of_mem_set hx with hx | rfl
    · exact h.ok.n64 x hx
    · exact pad_64 hb
  · intro p hp
    show p.2.length = 64 ∧ 0 ≤ p.1 ∧ p.1 < ((s.now.set _ _).length : Int)
    rw [List.length_set]
    rcases List.mem_append.1 hp with hp | hp
    · exact h.ok.o64 p hp
    · rw [List.mem_singleton] at hp; subst hp; exact ⟨pad_64 hb, h1, by simp only; omega⟩
  · show (s.now.set _ _).length = 8; rw [List.length_set]; exact h.n8
  · show s.now.set _ _ = apply s.fast (s.opn ++ [(i, Disk.pad b)])
    rw [apply_snoc, ← h.now]
theorem fresh_inv : Inv (fresh 8) := ⟨fresh_ok (by decide) (by decide), by simp [fresh], rfl, rfl, rfl⟩
theorem call1_inv {s : St} (h : Inv s) (d : Do9) : Inv (call1 s d) := by
  unfold call1
  have := least_in d.at_
  split
  · exact h.write_inv _ _ (by omega) (by omega) (by rw [List.length_take]; omega)
  · split
    · exact h.sync_inv
    · split
      · exact h.crash_inv []
      · exact h
theorem run_inv {s : St} (h : Inv s) (l : List Do9) : Inv (run s l) := by
  unfold run
  induction l generalizing s with
  | nil => exact h
  | cons x r ih => exact ih (call1_inv h x)
theorem Inv.rows {s : St} (h : Inv s) : rows s 8 = s.now := by
  apply List.ext_getElem?
  intro i
  unfold Go.Proofs.Ytbiohidelhfaiaa.rows
  rw [List.getElem?_map]
  by_cases hi : i < 8
  · rw [List.getElem?_range hi]
    have hn := h.n8
    have : s.now[i]? = some s.now[i] := List.getElem?_eq_getElem (by omega)
    simp [St.read, h.off, St.at_, this]
  · rw [List.getElem?_eq_none (by simp; omega), List.getElem?_eq_none (by rw [h.n8]; omega)]; rfl
theorem sameTo_self {xs : List (List Int)} (h : ∀ x ∈ xs, x.length = 64) : sameTo xs xs xs.length = true := by
  unfold sameTo good
  rw [List.all_eq_true]
  intro j hj
  rw [List.mem_range] at hj
  simp [List.getD_eq_getElem?_getD, List.getElem?_eq_getElem hj, h _ (List.getElem_mem hj)]
theorem fast_law {s : St} (h : Inv s) (keep : List Bool) : s.sync.1 = 0 ∧ s.sync.2.opn.length = 0 ∧ sameTo (rows s.sync.2 8) (rows (s.sync.2.crash keep) 8) (rows s.sync.2 8).length = true := by
  have h1 := h.sync_inv
  have h2 := h1.crash_inv keep
  refine ⟨by rw [h.sync], by rw [h.sync]; rfl, ?_⟩
  rw [h1.rows, h2.rows, h1.crash keep]
  rw [h.sync]
  exact sameTo_self h.ok.n64
theorem rows_big {s : Disk.St} (h : Inv s) : ∀ x ∈ rows s 8, x.length ≤ 1000000 := by
  rw [h.rows]; intro x hx; rw [h.ok.n64 x hx]; decide
end Go.Proofs.Ytbiohidelhfaiaa
