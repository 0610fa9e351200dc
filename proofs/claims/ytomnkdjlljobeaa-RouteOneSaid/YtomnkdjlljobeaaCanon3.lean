/-
  A region whose order is drawn, where three operations may be next.
-/
import Derived.Test.YtomnkdjlljobeaaCanon
namespace Go.Canon
set_option linter.unusedVariables false
section
variable {P : Program} {md : Region.Mode} {ops : Array Oper} {Q : Exit → Act → World → Prop} {T : List Nat} {L : List (Addr × Value)} {H : List (Nat × Nat)}
def fork3B (P : Program) (md : Region.Mode) (ops : Array Oper) (T : List Nat) (H : List (Nat × Nat)) (i : Nat) (p : Plan) (j : Nat) (q : Plan) (k : Nat) (s : Plan) (l : Array Bool) : Bool :=
  (Region.ready md ops l == [i, j, k]) && planB P md ops T H p (l.setIfInBounds i true) && planB P md ops T H q (l.setIfInBounds j true) && planB P md ops T H s (l.setIfInBounds k true) && p.even && q.even && s.even && (p.size == q.size) && (p.size == s.size)
def wpFork3 (P : Program) (ops : Array Oper) (Q : Exit → Act → World → Prop) (S : World → Prop) (i : Nat) (p : Plan) (j : Nat) (q : Plan) (k : Nat) (s : Plan) (a : Act) (w : World) : Prop :=
  wpList P ops (Exit.then (fun a w => S w ∧ wpPlan P ops Q S p a w) Q) (pick ops [i]) a w ∧ wpList P ops (Exit.then (fun a w => S w ∧ wpPlan P ops Q S q a w) Q) (pick ops [j]) a w ∧ wpList P ops (Exit.then (fun a w => S w ∧ wpPlan P ops Q S s a w) Q) (pick ops [k]) a w
theorem fork3_any (hQ : Safe Q) (hP : prodB md ops = true) (hsel : Region.noSelect ops = true) (hE : Ends ops Q L H) {i j k : Nat} {p q s : Plan} {l : Array Bool} {a : Act} {w : World} (hg : fork3B P md ops T H i p j q k s l = true) (hs : Shut md ops l)
    (h : wpFork3 P ops Q (Cells L) i p j q k s a w) : wpAnyT P md ops Q (Cells L) T (p.size + 1) l a w := by
  unfold fork3B at hg
  simp only [Bool.and_eq_true, beq_iff_eq] at hg
  obtain ⟨⟨⟨⟨⟨⟨⟨⟨hr, hp⟩, hq⟩, hss⟩, e1⟩, e2⟩, e3⟩, z1⟩, z2⟩ := hg
  unfold wpFork3 at h
  rw [wpList_pick_cons, wpList_pick_cons, wpList_pick_cons] at h
  have hi : i ∈ Region.ready md ops l := by rw [hr]; simp
  have hj : j ∈ Region.ready md ops l := by rw [hr]; simp
  have hk : k ∈ Region.ready md ops l := by rw [hr]; simp
  refine ⟨fun h0 => (by rw [hr] at h0; cases h0), fun x hx => ?_⟩
  rw [hr] at hx
  rcases List.mem_cons.1 hx with rfl | hx
  · exact wpOp_mono (fun a w hh => ⟨fun _ => hh.1, plan_any hQ hP hsel hE p _ a w hp e1 (hs.set hi) hh.2⟩) (wpOp_then h.1 hQ)
  · rcases List.mem_cons.1 hx with rfl | hx
    · refine wpOp_mono (fun a w hh => ⟨fun _ => hh.1, ?_⟩) (wpOp_then h.2.1 hQ)
      have := plan_any hQ hP hsel hE q _ a w hq e2 (hs.set hj) hh.2
      rwa [← z1] at this
    · rw [List.mem_singleton] at hx
      subst hx
      refine wpOp_mono (fun a w hh => ⟨fun _ => hh.1, ?_⟩) (wpOp_then h.2.2 hQ)
      have := plan_any hQ hP hsel hE s _ a w hss e3 (hs.set hk) hh.2
      rwa [← z2] at this
def full3B (P : Program) (ops : Array Oper) (T : List Nat) (H : List (Nat × Nat)) (r : List Nat) (i : Nat) (p : Plan) (j : Nat) (q : Plan) (k : Nat) (s : Plan) : Bool :=
  (r.length + (p.size + 1) == ops.size) && Region.noSelect ops && prodB .any ops && (match segB P .any ops T r (Array.replicate ops.size false) with | some l' => fork3B P .any ops T H i p j q k s l' | none => false)
end
/-- A region whose order is drawn: some in a row, then three ways. -/
theorem region3 {P : Program} {Q : Exit → Act → World → Prop} {id : Nat} {l : List Oper} {a : Act} {w : World} (T : List Nat) (L : List (Addr × Value)) (H : List (Nat × Nat)) (r : List Nat) (i : Nat) (p : Plan) (j : Nat) (q : Plan) (k : Nat) (s : Plan) (hm : P.follows .mixedOrders = true) (hB : full3B P l.toArray T H r i p j q k s = true) (hQ : Safe Q)
    (h : wpList P l.toArray (Exit.then (wpFork3 P l.toArray (Fine l.toArray L H Q) (Cells L) i p j q k s) (Fine l.toArray L H Q)) (pick l.toArray r) a w.drew) : (Code.region id l.toArray true).wp P Q a w := by
  unfold full3B at hB
  simp only [Bool.and_eq_true, beq_iff_eq] at hB
  obtain ⟨⟨⟨hn, hsel⟩, hP⟩, hg⟩ := hB
  have hQ2 : Safe (Fine l.toArray L H Q) := ⟨fun c a w hh => hQ.1 _ _ _ hh, fun a w hh => hQ.2 _ _ hh⟩
  have hE : Ends l.toArray (Fine l.toArray L H Q) L H := ⟨fun k o hk a w hh => fineB_spec hh.1 k o hk, fun q hq o ho a w hh => HeldAll.get hh.2.1 q hq o ho⟩
  cases hl : segB P .any l.toArray T r (Array.replicate l.toArray.size false) with
  | none => rw [hl] at hg; cases hg
  | some l' =>
    rw [hl] at hg
    have h1 := seg_any hQ2 hP hsel hE (n := p.size + 1) (fun hs' a w hh => fork3_any hQ2 hP hsel hE hg hs' hh) r (Array.replicate l.toArray.size false) a w.drew hl (Shut.start _) h
    rw [hn] at h1
    exact wp_region_any hm (wpAny_monoQ hQ2 (fun a w hh => hh.2.2) _ _ _ _ (wpAnyT_any _ _ _ _ h1))
end Go.Canon
