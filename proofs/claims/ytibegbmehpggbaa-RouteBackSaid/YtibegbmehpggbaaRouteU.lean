/-
  Targets, beside the wire: what of the route's texts is wanted here, but for the document's part.
-/
import Derived.Test.YtibegbmehpggbaaLWireBack
import Derived.Test.YtibegbmehpggbaaRouteP
namespace Go.Proofs.Ytibegbmehpggbaa
open Go.RowKit Go.Canon Go.Mem
set_option linter.unusedVariables false
set_option linter.unusedSimpArgs false
theorem pick_mem {f : List Int} {ps : List (List Int)} {g : FormP} (h : pickP f ps = some g) : g ∈ formsL := List.mem_of_find?_eq_some h
theorem meth_some : ∀ g ∈ formsL, (g.method.toList == []) = false := by
  intro g hg
  have h : g.method = sPUT ∨ g.method = sPOST ∨ g.method = sGET := by
    simp only [formsL, List.mem_cons, List.not_mem_nil, or_false] at hg
    rcases hg with rfl | rfl | rfl | rfl | rfl | rfl | rfl | rfl | rfl | rfl <;> simp
  rcases h with h | h | h <;> rw [h, ByteArray.toList_eq] <;> rfl
theorem parseT_some {s : List Int} {q : AskP} {m : ByteArray} (h : parseT s = some (q, m)) : (m.toList == []) = false ∧ q.body = [] := by
  unfold parseT at h
  cases hp : partsF s with
  | none => rw [hp] at h; cases h
  | some x =>
    obtain ⟨f, ps⟩ := x
    rw [hp] at h
    simp only at h
    cases hk : pickP f ps with
    | none => rw [hk] at h; cases h
    | some g =>
      rw [hk] at h
      simp only at h
      split at h
      · simp only [Option.some.injEq, Prod.mk.injEq] at h
        obtain ⟨rfl, rfl⟩ := h
        refine ⟨meth_some g (pick_mem hk), ?_⟩
        unfold askP; split <;> rfl
      · cases h
theorem ReqP.cut_cut (r : ReqP) : r.cut.cut = r.cut := by unfold ReqP.cut; simp [List.take_take]
theorem ReqP.cut_len (r : ReqP) : r.cut.target.length ≤ 200 ∧ r.cut.body.length ≤ 2100 := by unfold ReqP.cut; simp only [List.length_take]; omega
theorem same23_self {w : World} {ok ok2 : Nat → Prop} (r : AskP) (hr : r.Ok) (v u : Value) (h1 : Rd w ok v r.body.length (Disk.bytes8 r.body)) (h2 : Rd w ok2 u r.body.length (Disk.bytes8 r.body)) (hl : r.body.length ≤ 1000000) : Calls Try.prog 33 #[askV r v, askV r u] w (Rets (Still (.bool true) w)) := by
  have h := same23_c r r hr hr v u h1 h2 hl
  rw [decide_eq_true rfl] at h
  exact h
theorem reqC_one (r : ReqP) (A : Option Addr) (n c : Nat) : #[Value.string (str r.method), .string (str r.target), .string (str r.token), .slice A n c].all (·.oneCell') = true := by simp [Value.oneCell']
theorem numAt_i64 (ps : List (List Int)) (i : Nat) : i64 (numAt ps i) := by
  have h : ∀ l : List Int, i64 (readD l).1 := by
    intro l
    unfold readD
    split
    · rename_i h
      have hv := h.2
      have : l.all digC = true := by have := h.1; unfold okD at this; rw [Bool.and_eq_true, Bool.and_eq_true] at this; exact this.1.2
      have := valF_pos this
      constructor <;> simp only <;> omega
    · constructor <;> simp only <;> omega
  unfold numAt
  split
  · exact h _
  · constructor <;> omega
theorem parts_byte {s : List Int} (h : IsB s) {f : List Int} {ps : List (List Int)} (hp : partsF s = some (f, ps)) : IsB f ∧ ∀ p ∈ ps, IsB p := by
  unfold partsF at hp
  rcases fields_cases s with hf | ⟨x, qs, hf, _, hq⟩
  · rw [hf] at hp; cases hp
  · rw [hf] at hp
    cases x with
    | nil =>
      cases qs with
      | nil => cases hp
      | cons a t =>
        simp only [Option.some.injEq, Prod.mk.injEq] at hp
        obtain ⟨rfl, rfl⟩ := hp
        exact ⟨(hq a (by simp)).2 h, fun p hp => (hq p (by simp [hp])).2 h⟩
    | cons => cases hp
theorem askP_ok (k : Int) (num : Bool) {ps : List (List Int)} (h : ∀ p ∈ ps, IsB p) : (askP k num ps).Ok := by
  have hg : ∀ i : Nat, IsB ((ps[i]?).getD []) := fun i => by
    cases hi : ps[i]? with
    | none => exact IsB.nil
    | some p => exact h p (List.mem_of_getElem? hi)
  unfold askP
  split
  · exact ⟨IsB.nil, IsB.nil, IsB.nil, numAt_i64 _ _, numAt_i64 _ _⟩
  · exact ⟨hg 0, hg 1, IsB.nil, (show i64 0 from ⟨by decide, by decide⟩), (show i64 0 from ⟨by decide, by decide⟩)⟩
theorem zeroA_ok : zeroA.Ok := ⟨IsB.nil, IsB.nil, IsB.nil, ⟨by decide, by decide⟩, ⟨by decide, by decide⟩⟩
theorem parseP_ok {r : ReqP} (h : r.Ok) : (parseP r).1.Ok ∧ (parseP r).1.body.length ≤ r.body.length := by
  unfold parseP
  cases hT : parseT r.target with
  | none => exact ⟨zeroA_ok, Nat.zero_le _⟩
  | some x =>
    obtain ⟨q, m⟩ := x
    have hq : q.Ok ∧ q.body = [] := by
      refine ⟨?_, (parseT_some hT).2⟩
      unfold parseT at hT
      cases hp : partsF r.target with
      | none => rw [hp] at hT; cases hT
      | some x =>
        obtain ⟨f, ps⟩ := x
        rw [hp] at hT
        simp only at hT
        cases hk : pickP f ps with
        | none => rw [hk] at hT; cases hT
        | some g =>
          rw [hk] at hT
          simp only at hT
          split at hT
          · simp only [Option.some.injEq, Prod.mk.injEq] at hT
            obtain ⟨rfl, rfl⟩ := hT
            exact askP_ok _ _ (parts_byte h.target hp).2
          · cases hT
    simp only
    split
    · split
      · exact ⟨⟨hq.1.name, hq.1.spec, h.body, hq.1.ka, hq.1.kb⟩, Nat.le_refl _⟩
      · exact ⟨hq.1, by simp only; rw [hq.2]; exact Nat.zero_le _⟩
    · exact ⟨zeroA_ok, Nat.zero_le _⟩
theorem info_byteR : (Try.prog.info? 5).map (·.size) = some 1 := by kernel_rfl
theorem isB_dec {l : List Int} (h : l.all (fun x => decide (0 ≤ x ∧ x < 256)) = true) : IsB l := fun x hx => of_decide_eq_true (List.all_eq_true.1 h x hx)
theorem liveP : parseP ⟨[71, 69, 84], [47, 106, 111, 98, 115, 47, 55], [], []⟩ = (⟨5, [], [], [], 7, 0⟩, 200) := by kernel_rfl
set_option maxHeartbeats 1600000 in
set_option maxRecDepth 100000 in
theorem lives23_c (w : World) : Calls Try.prog 31 #[] w (Rets (Yes w)) := by
  have HP := Lib.hid (fun w => parse23_c (w := w) (ok := fun _ => True) ⟨[71, 69, 84], [47, 106, 111, 98, 115, 47, 55], [], []⟩ ⟨isB_dec (by decide), isB_dec (by decide), isB_dec (by decide), isB_dec (by decide)⟩ (by decide) (by decide) (.slice none 0 0) (Rd.nil _ _))
  rw [liveP] at HP
  go_enter Try.func31, Try.ntmps31
  go_wp2_with (first
    | ((with_reducible refine at_store 66 (.tmp 1) (.tmp 6) rfl ?_); go_must (refine step_store rfl _ _ _ rfl w2.heap.size 0 (askC ⟨5, [], [], [], 7, 0⟩ (.slice A2 0 c2)) _ _ rfl rfl hb3 (by simp [askC_len]) (info_askC _ _) (by simp [askC, Value.oneCell']) ?_); intro w4 hb4 hk4 hs4; rw [put_whole (by rfl)] at hb4; have c0 : w4.cell? ⟨w2.heap.size, 0, none⟩ = some (.int .i64 5) := (cell_of_row w4 _ 0 _ _ _ hb4).trans rfl; have c4 : w4.cell? ⟨w2.heap.size, 4, none⟩ = some (.int .i64 7) := (cell_of_row w4 _ 4 _ _ _ hb4).trans rfl)
    | ((with_reducible refine at_ 1 rfl ?_); go_must (refine step_alloc rfl _ rfl _ (askC zeroA (.slice none 0 0)) row_ask rfl ?_); intro w3 hb3 hk3 hs3)
    | (go_at_call 32; go_loud (refine Rets.use (HP.out _) ?_); rintro _ w2 ⟨hk2, u2, rfl, hO2⟩; obtain ⟨A2, c2, rfl, _⟩ := hO2.slice))
  go_ret
  exact ⟨rfl, (hk2.trans hk3 (fun _ _ h => h)).trans hk4 (fun _ hk h => by have := hk2.size; omega)⟩
end Go.Proofs.Ytibegbmehpggbaa
