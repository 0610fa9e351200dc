/-
  A log lives.
-/
import Derived.Test.YtmkpdoljaccpaaaWalT
import Derived.Lib.SlBytesConst
namespace Go.Proofs.Ytmkpdoljaccpaaa
open Go.RowKit Go.Canon Go.Mem Go.Args
open Go.Disk (St)
set_option linter.unusedVariables false
set_option linter.unusedSimpArgs false
theorem write_quiet {s : St} (ho : s.off = false) (ha : s.armed = false) (i : Int) (b : List Int) (h1 : 0 ≤ i) (h2 : i < s.now.length) (hb : b.length ≤ 64) : s.write i b = (0, { s with now := s.now.set i.toNat (Disk.pad b), opn := s.opn ++ [(i, Disk.pad b)] }) := by
  unfold St.write St.step
  simp [ho, ha]
  omega
theorem sync_quiet {s : St} (ho : s.off = false) (ha : s.armed = false) : s.sync.1 = 0 := by
  unfold St.sync St.step
  simp [ho, ha]
theorem sec_mem {l : List Int} {j : Nat} {x : Int} (h : x ∈ secF l j) : x ∈ l := List.mem_of_mem_drop (List.mem_of_mem_take h)
theorem blank_zero {l : List Int} (h : ∀ x ∈ l, x = 0) : blankF l = true := by
  unfold blankF
  rw [List.all_eq_true]
  intro x hx
  simpa using h x hx
theorem wipe_zero {all : List Int} (h : ∀ x ∈ all, x = 0) (frm : Nat) : ∀ (m : Nat) (s : St), wipeGo all frm m false s = (0, false, s) := by
  intro m
  induction m with
  | zero => intro s; rfl
  | succ m ih => intro s; rw [wipeGo, if_pos (blank_zero (fun x hx => h x (sec_mem hx))), ih]
theorem zero_flat (n : Nat) : ∀ x ∈ flatS (fresh n).now, x = 0 := by
  intro x hx
  unfold flatS fresh at hx
  obtain ⟨z, hz, hx⟩ := List.mem_flatten.1 hx
  have h1 := List.eq_of_mem_replicate hz
  subst h1
  unfold Disk.zsec at hx
  exact List.eq_of_mem_replicate hx
theorem openP_fresh (n : Nat) : openP (fresh n) = (0, some ⟨[], 0, false⟩, fresh n) := by
  have hz := zero_flat n
  have hs : scan (flatS (fresh n).now) (fresh n).now.length ((fresh n).now.length + 1) [] 0 = some ([], 0) := by
    rw [scan, if_neg (fun h => by rw [blank_zero (fun x hx => hz x (sec_mem hx))] at h; cases h.2)]
  have hw : wipeP (fresh n) (flatS (fresh n).now) 0 = (0, fresh n) := by
    unfold wipeP
    rw [wipe_zero hz]
    rfl
  unfold openP
  rw [if_neg (by simp [fresh]), hs]
  simp only [hw]
  rfl
theorem openP_two : openP (fresh 2) = (0, some ⟨[], 0, false⟩, fresh 2) := openP_fresh 2
theorem lay_two (f : List Int) (h1 : 1 ≤ f.length) (h2 : f.length ≤ 64) : (layP (fresh 2) 0 f).1 = 0 := by
  have e : spanF f.length - 1 = 0 := by unfold spanF; omega
  unfold layP
  rw [e]
  have e2 : layGo f 0 0 1 (fresh 2) = (0, fresh 2) := rfl
  rw [e2, if_pos rfl]
  unfold layMid
  rw [if_neg (by omega)]
  unfold layEnd
  have hw := write_quiet (s := fresh 2) rfl rfl ((0 : Nat) : Int) (f.take 64) (by decide) (by simp [fresh]) (by rw [List.length_take]; omega)
  rw [hw, if_pos rfl]
  exact sync_quiet rfl rfl
theorem append_two : (appendP (fresh 2) ⟨[], 0, false⟩ [97]).1 = 0 ∧ (appendP (fresh 2) ⟨[], 0, false⟩ [97]).2.2 = ⟨[[97]], 1, false⟩ := by
  have hl := lay_two (putF ((([] : List (List Int)).length : Int) + 1) [97]) (by rw [putF_len]; decide) (by rw [putF_len]; decide)
  unfold appendP
  rw [if_neg (by simp), if_neg (by simp), if_neg (by simp [fresh, spanF]), if_pos hl]
  exact ⟨rfl, rfl⟩
theorem flat_fresh (n : Nat) : IsB (flatS (fresh n).now) := fun x hx => by rw [zero_flat n x hx]; decide
set_option maxHeartbeats 1600000 in
set_option maxRecDepth 100000 in
theorem lives10_c (w : World) : Calls Try.prog 39 #[] w (Rets (Yes w)) := by
  have HO := Lib.hid openP_two
  have HA := Lib.hid append_two
  have HB := Lib.hid (flat_fresh 2)
  have h0 := appendP
  obtain ⟨r, hr⟩ : ∃ r, r = appendP (fresh 2) ⟨[], 0, false⟩ [97] := ⟨_, rfl⟩
  have HR := Lib.hid hr
  rw [← hr] at HA
  clear hr h0
  have kc := fun (w : World) (C : Array Value) (n c : Nat) => Lib.run_convert_bytes_const (P := Try.prog) w 38 5 C n c Try.underlying38 Try.underlying5
  go_enter Try.func39, Try.ntmps39
  go_wp2_with (first
    | (go_at_call 36; go_loud (refine Rets.use (next_c (hm4.kept hk5 (fun _ _ h => h))) ?_); rintro _ _ ⟨rfl, rfl⟩)
    | (go_at_call 41; go_loud (refine Rets.use (texts_c hm4 (by decide) (by intro t ht; rw [List.mem_singleton] at ht; subst ht; decide)) ?_); rintro v5 w5 ⟨hk5, hr5⟩; obtain ⟨vs5, ho5, _⟩ := hr5; obtain ⟨A5, c5, rfl, _⟩ := ho5.slice)
    | (go_at_call 37; (have hk3 : Keeps (fun _ => False) w2 (w2.alloc (.cells #[.int .u8 97] 5 (1, 2))) := (Keeps.refl _ w2).alloc _); (have hb3r : Rd (w2.alloc (.cells #[.int .u8 97] 5 (1, 2))) (· = w2.heap.size) (.slice (some ⟨w2.heap.size, 0, none⟩) 1 1) 1 (Disk.bytes8 [97]) := ⟨_, _, rfl, by decide, fun h => (by cases h), .inr ⟨_, _, rfl, rfl, fun j u hu => by rw [cell_of_row _ _ _ _ _ _ (heap_alloc_new w2 _), Nat.zero_add]; simpa [Disk.bytes8] using hu⟩⟩); go_loud (refine Rets.use (append_c (ok := (· = w2.heap.size)) (hd2.bound.kept hk3 (fun _ _ h => h)) (hm2.kept hk3 (fun _ _ h => h)) (fun k h => h.1.2) (fun k h => by have := (hQ2 k h).2; have := hk3.size; omega) (by decide) (by decide) (by decide) _ [97] hb3r (fun k h => ⟨fun h' => by have := h'.2; omega, fun h' => by have := (hQ2 k h').2; omega⟩) (by decide)) ?_); intro v4 w4 hp4; rw [← HR.out] at hp4; obtain ⟨rfl, hk4, Q4, hQ4, hd4, hm4⟩ := hp4; rw [HA.out.1]; rw [HA.out.2] at hm4)
    | (go_at_call 34; go_loud (refine Rets.use (wopen_c hd1 (by decide) HB.out) ?_); rintro v2 w2 ⟨hk2, Q2, hQ2, hd2, hv2⟩; rw [HO.out] at hd2 hv2; obtain ⟨L2, x, e2, rfl, hm2⟩ := hv2.resolve_left (fun h => by cases h.1); cases e2)
    | (go_at_call 30; go_loud (refine Rets.use (dNew_c 2 (by decide) (by decide) _) ?_); rintro v1 w1 ⟨hk1, g, rfl, hd1⟩))
  go_ret
  have z1 := hk1.size
  have z2 := hk2.size
  exact ⟨rfl, (((hk1.trans hk2 (fun k hk h => by omega)).trans hk3 (fun _ _ h => h)).trans hk4 (fun k hk h => by rcases h with h | h; have := h.1.1; omega; have := (hQ2 k h).1; omega)).trans hk5 (fun _ _ h => h)⟩
end Go.Proofs.Ytmkpdoljaccpaaa
