/-
  Layer 9, plainly: a disk whose power goes off behind so many steps, beside one whose power stays; two disks apart in memory.
-/
import Derived.Test.YtmkpdoljaccpaaaDiskP
namespace Go.Proofs.Ytmkpdoljaccpaaa
open Go.Disk (St)
open Go.Mem
set_option linter.unusedVariables false
set_option linter.unusedSimpArgs false
theorem rows_of {s : St} (hoff : s.off = false) (hn : s.now.length = 8) : rows s 8 = s.now := by
  apply List.ext_getElem?
  intro i
  unfold rows
  rw [List.getElem?_map]
  by_cases hi : i < 8
  · rw [List.getElem?_range hi]
    have : s.now[i]? = some s.now[i] := List.getElem?_eq_getElem (by omega)
    simp [St.read, hoff, St.at_, this]
  · rw [List.getElem?_eq_none (by simp; omega), List.getElem?_eq_none (by omega)]; rfl
def arms (s : St) (m : Int) : St := { s with armed := true, left := m }
def offs (s : St) : St := { s with armed := true, left := 0, off := true }
theorem arm_law {s : St} (h : Inv s) {n : Int} (hn : 0 ≤ n) : s.arm n = (0, arms s n) := by
  unfold St.arm arms
  have : ¬ n < 0 := by omega
  simp [h.off, this]
theorem write_on {s : St} (h : Inv s) {m : Int} (hm : 0 < m) (i : Int) (b : List Int) (h1 : 0 ≤ i) (h2 : i < 8) (hb : b.length ≤ 64) : (arms s m).write i b = (0, arms (s.write i b).2 (m - 1)) := by
  rw [h.write i b h1 h2 hb]
  have h8 := h.n8
  have hbad : ¬ (i < 0 ∨ (s.now.length : Int) ≤ i ∨ 64 < b.length) := by omega
  have hm0 : ¬ m = 0 := by omega
  unfold St.write St.step arms
  simp [h.off, hbad, hm0]
theorem write_gone {s : St} (h : Inv s) (i : Int) (b : List Int) (h1 : 0 ≤ i) (h2 : i < 8) (hb : b.length ≤ 64) : (arms s 0).write i b = (14, offs s) := by
  have h8 := h.n8
  have hbad : ¬ (i < 0 ∨ (s.now.length : Int) ≤ i ∨ 64 < b.length) := by omega
  unfold St.write St.step arms offs
  simp [h.off, hbad]
theorem sync_on {s : St} (h : Inv s) {m : Int} (hm : 0 < m) : (arms s m).sync = (0, arms s.sync.2 (m - 1)) := by
  have hm0 : ¬ m = 0 := by omega
  unfold St.sync St.step arms
  simp [h.off, h.armed, hm0]
theorem sync_gone {s : St} (h : Inv s) : (arms s 0).sync = (14, offs s) := by
  unfold St.sync St.step arms offs
  simp [h.off]
/-- All but the power alike. -/
structure Like (s sd : St) : Prop where
  fast : sd.fast = s.fast
  now : sd.now = s.now
  opn : sd.opn = s.opn
theorem like_arms (s : St) (m : Int) : Like s (arms s m) := ⟨rfl, rfl, rfl⟩
theorem like_offs (s : St) : Like s (offs s) := ⟨rfl, rfl, rfl⟩
theorem keep_all (keep : List Bool) : ∀ (l : List (Int × List Int)) (k : Nat) (f : List (List Int)), (∀ j, j < l.length → keep.getD (k + j) false = true) → St.keep keep k f l = apply f l := by
  intro l
  induction l with
  | nil => intro k f _; rfl
  | cons p r ih =>
    intro k f h
    have h0 := h 0 (by simp)
    rw [Nat.add_zero] at h0
    rw [St.keep, if_pos h0, apply_cons]
    refine ih (k + 1) _ (fun j hj => ?_)
    have := h (j + 1) (by rw [List.length_cons]; omega)
    rwa [show k + 1 + j = k + (j + 1) by omega]
theorem crash_all {s sd : St} (h : Inv s) (hl : Like s sd) {n : Nat} (hn : sd.opn.length = n) : (sd.crash (List.replicate n true)).off = false ∧ sameTo (rows s 8) (rows (sd.crash (List.replicate n true)) 8) (rows s 8).length = true := by
  have hc : (sd.crash (List.replicate n true)).now = s.now := by
    show St.settle (St.keep _ 0 sd.fast sd.opn) sd.now sd.opn = s.now
    have hk : St.keep (List.replicate n true) 0 sd.fast sd.opn = apply sd.fast sd.opn := keep_all _ _ _ _ (fun j hj => by rw [Nat.zero_add, List.getD_eq_getElem?_getD, List.getElem?_replicate, if_pos (by omega)]; rfl)
    have h1 : sd.now = apply sd.fast sd.opn := by rw [hl.now, hl.fast, hl.opn]; exact h.now
    rw [settle_back (keep := List.replicate n true) h1 rfl, hk, ← h1, hl.now]
  refine ⟨rfl, ?_⟩
  rw [rows_of (s := sd.crash _) rfl (by rw [hc]; exact h.n8), hc, h.rows]
  exact sameTo_self h.ok.n64
theorem read0 {s sd : St} (h : Inv s) (hl : Like s sd) : (sd.read 0).2 = if sd.off = true then 14 else 0 := by
  unfold St.read St.at_
  split
  · rfl
  · have h8 := h.n8
    have : sd.now[(0 : Int).toNat]? = some (sd.now[0]'(by rw [hl.now]; omega)) := List.getElem?_eq_getElem _
    rw [if_pos (by omega), this]
/-- Two disks, apart. -/
def Two (W : World) (g gx : Nat) (s sx : St) (w : World) : Prop := Keeps (fun _ => False) W w ∧ ∃ P Q : Nat → Prop, DIs w P g s ∧ DIs w Q gx sx ∧ (∀ k, P k → W.heap.size ≤ k ∧ k < w.heap.size ∧ ¬ Q k) ∧ (∀ k, Q k → W.heap.size ≤ k ∧ k < w.heap.size)
theorem Two.swap {W w : World} {g gx : Nat} {s sx : St} (h : Two W g gx s sx w) : Two W gx g sx s w := by
  obtain ⟨hK, P, Q, h1, h2, h3, h4⟩ := h
  exact ⟨hK, Q, P, h2, h1, fun k hk => ⟨(h4 k hk).1, (h4 k hk).2, fun hp => (h3 k hp).2.2 hk⟩, fun k hk => ⟨(h3 k hk).1, (h3 k hk).2.1⟩⟩
theorem two_post {W wr w' : World} {g gx : Nat} {sx s' : St} {v v' : Value} {P Q : Nat → Prop} (hK : Keeps (fun _ => False) W wr) (hx : DIs wr Q gx sx) (hP : ∀ k, P k → W.heap.size ≤ k ∧ k < wr.heap.size ∧ ¬ Q k) (hQ : ∀ k, Q k → W.heap.size ≤ k ∧ k < wr.heap.size) (hp : DPost wr P g v s' v' w') : v' = v ∧ Two W g gx s' sx w' := by
  have h1 := hK.size
  have h2 := hp.2.2.size
  refine ⟨hp.1, hK.trans hp.2.2 (fun k hk hh => by have := (hP k hh).1; omega), fun k => (P k ∨ wr.heap.size ≤ k) ∧ k < w'.heap.size, Q, hp.2.1.bound, hx.kept hp.2.2 (fun k hq hpk => (hP k hpk).2.2 hq), ?_, fun k hk => ⟨(hQ k hk).1, by have := (hQ k hk).2; omega⟩⟩
  rintro k ⟨hk | hk, hlt⟩
  · exact ⟨(hP k hk).1, hlt, (hP k hk).2.2⟩
  · exact ⟨by omega, hlt, fun hq => by have := (hQ k hq).2; omega⟩
/-- What is beside the two may turn. -/
theorem Two.kept {W wr w' : World} {g gx : Nat} {s sx : St} (h : Two W g gx s sx wr) (hk : Keeps (fun _ => False) wr w') : Two W g gx s sx w' := by
  obtain ⟨hK, P, Q, h1, h2, h3, h4⟩ := h
  have := hk.size
  exact ⟨hK.trans hk (fun _ _ h => h), P, Q, h1.kept hk (fun _ _ h => h), h2.kept hk (fun _ _ h => h), fun k hk => ⟨(h3 k hk).1, by have := (h3 k hk).2.1; omega, (h3 k hk).2.2⟩, fun k hk => ⟨(h4 k hk).1, by have := (h4 k hk).2; omega⟩⟩
end Go.Proofs.Ytmkpdoljaccpaaa
