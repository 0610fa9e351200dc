/-
  A new disk, a new log: plainly.
-/
import Derived.Test.YtbiohidelhfaiaaWalT
namespace Go.Proofs.Ytbiohidelhfaiaa
open Go.RowKit Go.Canon Go.Mem Go.Args
open Go.Disk (St)
set_option linter.unusedVariables false
set_option linter.unusedSimpArgs false
theorem write_quiet {s : St} (ho : s.off = false) (ha : s.armed = false) (i : Int) (b : List Int) (h1 : 0 ≤ i) (h2 : i < s.now.length) (hb : b.length ≤ 64) : s.write i b = (0, { s with now := s.now.set i.toNat (Disk.pad b), opn := s.opn ++ [(i, Disk.pad b)] }) := by
  unfold St.write St.step
  simp [ho, ha]
  omega
theorem sync_quiet {s : St} (ho : s.off = false) (ha : s.armed = false) : s.sync.1 = 0 := by
  unfold St.sync St.step
  simp [ho, ha]
theorem sec_mem {l : List Int} {j : Nat} {x : Int} (h : x ∈ secF l j) : x ∈ l := List.mem_of_mem_drop (List.mem_of_mem_take h)
theorem blank_zero {l : List Int} (h : ∀ x ∈ l, x = 0) : blankF l = true := by
  unfold blankF
  rw [List.all_eq_true]
  intro x hx
  simpa using h x hx
theorem wipe_zero {all : List Int} (h : ∀ x ∈ all, x = 0) (frm : Nat) : ∀ (m : Nat) (s : St), wipeGo all frm m false s = (0, false, s) := by
  intro m
  induction m with
  | zero => intro s; rfl
  | succ m ih => intro s; rw [wipeGo, if_pos (blank_zero (fun x hx => h x (sec_mem hx))), ih]
theorem zero_flat (n : Nat) : ∀ x ∈ flatS (fresh n).now, x = 0 := by
  intro x hx
  unfold flatS fresh at hx
  obtain ⟨z, hz, hx⟩ := List.mem_flatten.1 hx
  have h1 := List.eq_of_mem_replicate hz
  subst h1
  unfold Disk.zsec at hx
  exact List.eq_of_mem_replicate hx
theorem openP_fresh (n : Nat) : openP (fresh n) = (0, some ⟨[], 0, false⟩, fresh n) := by
  have hz := zero_flat n
  have hs : scan (flatS (fresh n).now) (fresh n).now.length ((fresh n).now.length + 1) [] 0 = some ([], 0) := by
    rw [scan, if_neg (fun h => by rw [blank_zero (fun x hx => hz x (sec_mem hx))] at h; cases h.2)]
  have hw : wipeP (fresh n) (flatS (fresh n).now) 0 = (0, fresh n) := by
    unfold wipeP
    rw [wipe_zero hz]
    rfl
  unfold openP
  rw [if_neg (by simp [fresh]), hs]
  simp only [hw]
  rfl
theorem openP_two : openP (fresh 2) = (0, some ⟨[], 0, false⟩, fresh 2) := openP_fresh 2
theorem lay_two (f : List Int) (h1 : 1 ≤ f.length) (h2 : f.length ≤ 64) : (layP (fresh 2) 0 f).1 = 0 := by
  have e : spanF f.length - 1 = 0 := by unfold spanF; omega
  unfold layP
  rw [e]
  have e2 : layGo f 0 0 1 (fresh 2) = (0, fresh 2) := rfl
  rw [e2, if_pos rfl]
  unfold layMid
  rw [if_neg (by omega)]
  unfold layEnd
  have hw := write_quiet (s := fresh 2) rfl rfl ((0 : Nat) : Int) (f.take 64) (by decide) (by simp [fresh]) (by rw [List.length_take]; omega)
  rw [hw, if_pos rfl]
  exact sync_quiet rfl rfl
theorem append_two : (appendP (fresh 2) ⟨[], 0, false⟩ [97]).1 = 0 ∧ (appendP (fresh 2) ⟨[], 0, false⟩ [97]).2.2 = ⟨[[97]], 1, false⟩ := by
  have hl := lay_two (putF ((([] : List (List Int)).length : Int) + 1) [97]) (by rw [putF_len]; decide) (by rw [putF_len]; decide)
  unfold appendP
  rw [if_neg (by simp), if_neg (by simp), if_neg (by simp [fresh, spanF]), if_pos hl]
  exact ⟨rfl, rfl⟩
theorem flat_fresh (n : Nat) : IsB (flatS (fresh n).now) := fun x hx => by rw [zero_flat n x hx]; decide
end Go.Proofs.Ytbiohidelhfaiaa
