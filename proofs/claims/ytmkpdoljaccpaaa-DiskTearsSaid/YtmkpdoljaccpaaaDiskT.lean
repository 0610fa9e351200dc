/-
  Layer 9, plainly: what stands behind a crash is what stood before, or one of the writes.
-/
import Derived.Test.YtmkpdoljaccpaaaDiskO
namespace Go.Proofs.Ytmkpdoljaccpaaa
open Go.Disk (St)
set_option linter.unusedVariables false
set_option linter.unusedSimpArgs false
/-- The writes among the calls. -/
def wsOf (l : List Do9) : List (Int × List Int) := l.filterMap fun d => if d.kind = 0 then some (least d.at_ 0 7, Disk.pad (d.b.take 64)) else none
/-- What was sent, sector by sector. -/
def sentOf (ws : List (Int × List Int)) : List (List (List Int)) := (List.range 8).map fun i => (ws.filter fun p => p.1.toNat == i).map (·.2)
theorem sentOf_len (ws : List (Int × List Int)) : (sentOf ws).length = 8 := by simp [sentOf]
theorem sentOf_at (ws : List (Int × List Int)) {i : Nat} (h : i < 8) : (sentOf ws)[i]? = some ((ws.filter fun p => p.1.toNat == i).map (·.2)) := by
  unfold sentOf; rw [List.getElem?_map, List.getElem?_range h]; rfl
theorem sentOf_snoc (ws : List (Int × List Int)) (p : Int × List Int) {j : Nat} {A : List (List Int)} (hj : p.1.toNat = j) (hA : (sentOf ws)[j]? = some A) : sentOf (ws ++ [p]) = (sentOf ws).set j (A ++ [p.2]) := by
  have h8 : j < 8 := by have := (List.getElem?_eq_some_iff.1 hA).1; rwa [sentOf_len] at this
  apply List.ext_getElem?
  intro i
  by_cases hi : i < 8
  · rw [sentOf_at _ hi]
    by_cases hij : j = i
    · subst hij
      rw [sentOf_at ws h8] at hA
      obtain rfl := Option.some.inj hA
      rw [List.getElem?_set_self (by rw [sentOf_len]; exact h8)]
      simp [List.filter_append, hj]
    · rw [List.getElem?_set_ne hij, sentOf_at ws hi]
      have : (p.1.toNat == i) = false := by rw [hj]; simpa using hij
      simp [List.filter_append, this]
  · rw [List.getElem?_eq_none (by rw [sentOf_len]; omega), List.getElem?_eq_none (by rw [List.length_set, sentOf_len]; omega)]
theorem wsOf_take (l : List Do9) (k : Nat) (d : Do9) (h : l[k]? = some d) : wsOf (l.take (k + 1)) = wsOf (l.take k) ++ (if d.kind = 0 then [(least d.at_ 0 7, Disk.pad (d.b.take 64))] else []) := by
  unfold wsOf
  rw [List.take_add_one, h, List.filterMap_append]
  congr 1
  by_cases hk : d.kind = 0 <;> simp [hk]
theorem wsOf_len (l : List Do9) : (wsOf l).length ≤ l.length := by unfold wsOf; exact List.length_filterMap_le _ _
theorem wsOf_in (l : List Do9) : ∀ p ∈ wsOf l, (0 ≤ p.1 ∧ p.1 ≤ 7) ∧ p.2.length = 64 := by
  intro p hp
  unfold wsOf at hp
  obtain ⟨d, _, hd⟩ := List.mem_filterMap.1 hp
  split at hd
  · cases hd; exact ⟨least_in _, pad_64 (by rw [List.length_take]; omega)⟩
  · cases hd
/-- Behind the writes. -/
def wrote (s : St) (ws : List (Int × List Int)) : St := { s with now := apply s.now ws, opn := ws }
theorem pad_pad {b : List Int} (hb : b.length ≤ 64) : Disk.pad (Disk.pad b) = Disk.pad b := by
  have h := pad_64 hb
  have hz := Disk.zsec_len
  conv => lhs; unfold Disk.pad
  rw [show (b ++ Disk.zsec.drop b.length) = Disk.pad b from rfl, h, List.drop_of_length_le (by omega), List.append_nil]
theorem pad_take {b : List Int} (hb : b.length ≤ 64) : (Disk.bytes8 b ++ List.replicate 64 (Value.int .u8 0)).take 64 = Disk.bytes8 (Disk.pad b) := by
  have hl : (Disk.bytes8 b).length = b.length := Disk.bytes8_len b
  unfold Disk.pad Disk.zsec
  rw [Disk.bytes8_append, List.take_append, hl, List.take_of_length_le (by omega), List.take_replicate, List.drop_replicate, Nat.min_eq_left (by omega)]
  congr 1
  simp [Disk.bytes8]
theorem wrote_nil {s : St} (h : s.opn = []) : wrote s [] = s := by
  cases s; simp only at h; subst h; rfl
theorem wrote_inv {s : St} (h : Inv s) (ho : s.opn = []) (ws : List (Int × List Int)) (hw : ∀ p ∈ ws, (0 ≤ p.1 ∧ p.1 ≤ 7) ∧ p.2.length = 64) : Inv (wrote s ws) := by
  have hl : (apply s.now ws).length = s.now.length := apply_len _ _
  have h8 := h.n8
  have hk : apply s.now ws = St.keep (List.replicate ws.length true) 0 s.now ws := (keep_all _ _ _ _ (fun j hj => by rw [Nat.zero_add, List.getD_eq_getElem?_getD, List.getElem?_replicate, if_pos hj]; rfl)).symm
  have hfn : s.fast = s.now := by have := h.now; rw [ho] at this; exact this.symm
  exact ⟨⟨by show s.fast.length = (apply s.now ws).length; rw [hl]; exact h.ok.len, by show 1 ≤ (apply s.now ws).length; rw [hl]; exact h.ok.pos, by show (apply s.now ws).length ≤ 4096; rw [hl]; exact h.ok.most, h.ok.f64, by show ∀ x ∈ apply s.now ws, x.length = 64; rw [hk]; exact Disk.keep_64 _ _ _ _ (fun p hp => (hw p hp).2) h.ok.n64, fun p hp => ⟨(hw p hp).2, (hw p hp).1.1, by show p.1 < ((apply s.now ws).length : Int); have := (hw p hp).1.2; omega⟩, h.ok.left0, h.ok.left1⟩, by show (apply s.now ws).length = 8; rw [hl]; exact h8, h.off, h.armed, by show apply s.now ws = apply s.fast ws; rw [hfn]⟩
theorem wrote_write {s : St} {ws : List (Int × List Int)} (h : Inv (wrote s ws)) (i : Int) (b : List Int) (h1 : 0 ≤ i) (h2 : i < 8) (hb : b.length ≤ 64) : (wrote s ws).write i (Disk.pad b) = (0, wrote s (ws ++ [(i, Disk.pad b)])) := by
  rw [h.write i (Disk.pad b) h1 h2 (by rw [pad_64 hb]; omega), pad_pad hb]
  simp [wrote, apply_snoc]
theorem keep_at (keep : List Bool) (i : Nat) (l : List (Int × List Int)) : ∀ k f, i < f.length → (St.keep keep k f l)[i]? = f[i]? ∨ ∃ p ∈ l, p.1.toNat = i ∧ (St.keep keep k f l)[i]? = some p.2 := by
  induction l with
  | nil => intro k f _; exact .inl rfl
  | cons p r ih =>
    intro k f hi
    rw [St.keep]
    by_cases hk : keep.getD k false = true
    · rw [if_pos hk]
      rcases ih (k + 1) (f.set p.1.toNat p.2) (by rw [List.length_set]; exact hi) with h | ⟨q, hq, h1, h2⟩
      · by_cases hp : p.1.toNat = i
        · right; refine ⟨p, List.mem_cons_self .., hp, ?_⟩; rw [h, hp, List.getElem?_set_self hi]
        · left; rw [h, List.getElem?_set_ne hp]
      · exact .inr ⟨q, List.mem_cons_of_mem _ hq, h1, h2⟩
    · rw [if_neg hk]
      rcases ih (k + 1) f hi with h | ⟨q, hq, h1, h2⟩
      · exact .inl h
      · exact .inr ⟨q, List.mem_cons_of_mem _ hq, h1, h2⟩
theorem apply_at (i : Nat) (l : List (Int × List Int)) : ∀ f, i < f.length → (apply f l)[i]? = (match (l.filter fun p => p.1.toNat == i).getLast? with | some p => some p.2 | none => f[i]?) := by
  induction l with
  | nil => intro f _; rfl
  | cons p r ih =>
    intro f hi
    rw [apply_cons, ih _ (by rw [List.length_set]; exact hi)]
    by_cases hp : p.1.toNat = i
    · rw [List.filter_cons_of_pos (by simpa using hp), List.getLast?_cons]
      cases (r.filter fun p => p.1.toNat == i).getLast? with
      | none => simp [hp, hi]
      | some q => rfl
    · rw [List.filter_cons_of_neg (by simpa using hp), List.getElem?_set_ne hp]
/-- What is asked of a sector. -/
def oks (full : Bool) (x w : List Int) (A : List (List Int)) (j : Nat) : Bool := (decide (x = w) && !(full && decide (0 < A.length))) || (List.range j).any fun i => decide (x = A.getD i []) && (!full || decide (i = A.length - 1))
theorem oks_succ (full : Bool) (x w : List Int) (A : List (List Int)) (j : Nat) : oks full x w A (j + 1) = (oks full x w A j || (decide (x = A.getD j []) && (!full || decide (j = A.length - 1)))) := by
  simp [oks, List.range_succ, Bool.or_assoc]
/-- Whether all are kept. -/
def fulls (keep : List Bool) (n j : Nat) : Bool := decide (n ≤ keep.length) && (List.range j).all fun i => keep.getD i false
theorem fulls_succ (keep : List Bool) (n j : Nat) : fulls keep n (j + 1) = (fulls keep n j && keep.getD j false) := by
  simp [fulls, List.range_succ, Bool.and_assoc]
theorem tears_law {s : St} (h : Inv s) (ho : s.opn = []) (l : List Do9) (keep : List Bool) {i : Nat} (hi : i < 8) {A : List (List Int)} (hA : (sentOf (wsOf l))[i]? = some A) (hI : Inv (wrote s (wsOf l))) :
    oks (fulls keep (wsOf l).length (min (wsOf l).length keep.length)) ((rows ((wrote s (wsOf l)).crash keep) 8).getD i []) ((rows s 8).getD i []) A A.length = true := by
  have hrows : rows ((wrote s (wsOf l)).crash keep) 8 = St.keep keep 0 s.now (wsOf l) := by
    rw [(hI.crash_inv keep).rows, hI.crash keep]
    have : s.fast = s.now := by have := h.now; rw [ho] at this; exact this.symm
    show St.keep keep 0 s.fast (wsOf l) = _
    rw [this]
  have h8 := h.n8
  rw [hrows, h.rows]
  have hA' := hA
  rw [sentOf_at _ hi] at hA'
  obtain rfl := Option.some.inj hA'
  have hkl : (St.keep keep 0 s.now (wsOf l)).length = 8 := by rw [Disk.keep_len, h8]
  by_cases hf : fulls keep (wsOf l).length (min (wsOf l).length keep.length) = true
  · rw [hf]
    unfold fulls at hf
    rw [Bool.and_eq_true, decide_eq_true_eq, List.all_eq_true] at hf
    have hall := keep_all keep (wsOf l) 0 s.now (fun j hj => by rw [Nat.zero_add]; exact hf.2 j (by rw [List.mem_range]; omega))
    rw [hall]
    have hat := apply_at i (wsOf l) s.now (by omega)
    cases hg : ((wsOf l).filter fun p => p.1.toNat == i).getLast? with
    | none =>
      rw [hg] at hat
      have hnil := List.getLast?_eq_none_iff.1 hg
      rw [hnil]
      simp [oks, List.getD_eq_getElem?_getD, hat]
    | some p =>
      rw [hg] at hat
      have hlen : 0 < ((wsOf l).filter fun p => p.1.toNat == i).length := by
        cases hc : ((wsOf l).filter fun p => p.1.toNat == i) with
        | nil => rw [hc] at hg; cases hg
        | cons a r => simp
      unfold oks
      rw [Bool.or_eq_true]
      right
      rw [List.any_eq_true]
      refine ⟨((wsOf l).filter fun p => p.1.toNat == i).length - 1, by rw [List.mem_range, List.length_map]; omega, ?_⟩
      rw [List.getLast?_eq_getElem?] at hg
      simp [List.getD_eq_getElem?_getD, hat, hg]
  · have hf' : fulls keep (wsOf l).length (min (wsOf l).length keep.length) = false := by simpa using hf
    rw [hf']
    unfold oks
    rw [Bool.or_eq_true]
    rcases keep_at keep i (wsOf l) 0 s.now (by omega) with h1 | ⟨p, hp, h1, h2⟩
    · left; simp [List.getD_eq_getElem?_getD, h1]
    · right
      rw [List.any_eq_true]
      have hm : p ∈ (wsOf l).filter fun p => p.1.toNat == i := by rw [List.mem_filter]; exact ⟨hp, by simpa using h1⟩
      obtain ⟨j, hj, he⟩ := List.getElem_of_mem hm
      refine ⟨j, by rw [List.mem_range, List.length_map]; exact hj, ?_⟩
      have hj? : ((wsOf l).filter fun p => p.1.toNat == i)[j]? = some p := by rw [List.getElem?_eq_getElem hj, he]
      simp [List.getD_eq_getElem?_getD, h2, hj?]
end Go.Proofs.Ytmkpdoljaccpaaa
