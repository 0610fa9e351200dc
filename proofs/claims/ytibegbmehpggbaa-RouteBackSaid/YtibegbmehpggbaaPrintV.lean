/-
  Requests that ask, plainly (beside the wire).
-/
import Derived.Test.YtibegbmehpggbaaRouteU
import Derived.Test.YtibegbmehpggbaaTxtE
namespace Go.Proofs.Ytibegbmehpggbaa
open Go.RowKit Go.Canon Go.Mem
set_option linter.unusedVariables false
set_option linter.unusedSimpArgs false
def pieceG (num : Bool) (a : AskP) (i : Nat) : List Int := if num = true then decF (if i = 0 then a.a else a.b) else (if i = 0 then a.name else a.spec)
def tgtG (first : ByteArray) (num : Bool) (a : AskP) : Nat → List Int
  | 0 => 47 :: bytesOf first
  | i + 1 => tgtG first num a i ++ (47 :: pieceG num a i)
def zeroR : ReqP := ⟨[], [], [], []⟩
def formK (k : Int) : Option FormP := formsL.find? fun g => ((g.kind : Nat) : Int) == k
def reqG (g : FormP) (a : AskP) : ReqP := ⟨bytesOf g.method, tgtG g.first g.numbers a g.pieces, [], if g.method.toList == [80, 85, 84] then a.body else []⟩
def printP (a : AskP) : ReqP × Int := match formK a.kind with
  | none => (zeroR, 2)
  | some g => if (parseP (reqG g a)).2 = 200 ∧ (parseP (reqG g a)).1 = a then (reqG g a, 0) else (zeroR, 2)
/-! ### the kind is told by the target -/
theorem split_first {f : List Int} (h : ∀ x ∈ f, x ≠ 47) (r : List Int) : splitF 47 (f ++ 47 :: r) = f :: splitF 47 r := by
  induction f with
  | nil => rw [List.nil_append, splitF, if_pos rfl]
  | cons c t ih =>
    rw [List.cons_append, splitF, if_neg (h c (List.mem_cons_self ..)), ih (fun x hx => h x (List.mem_cons_of_mem _ hx))]
    rfl
theorem split_only {f : List Int} (h : ∀ x ∈ f, x ≠ 47) : splitF 47 f = [f] := by
  induction f with
  | nil => rfl
  | cons c t ih =>
    rw [splitF, if_neg (h c (List.mem_cons_self ..)), ih (fun x hx => h x (List.mem_cons_of_mem _ hx))]
    rfl
theorem parts_of {t f : List Int} {ps : List (List Int)} (h : splitF 47 t = [] :: f :: ps) {g : List Int} {qs : List (List Int)} (hp : partsF t = some (g, qs)) : g = f ∧ qs = ps := by
  unfold partsF fieldsF at hp
  rw [h] at hp
  split at hp
  · rename_i e
    split at e
    · simp at e
    · simp only [Prod.mk.injEq, List.cons.injEq, true_and, and_true] at e
      obtain ⟨rfl, rfl⟩ := e
      simp only [Option.some.injEq, Prod.mk.injEq] at hp
      exact ⟨hp.1.symm, hp.2.symm⟩
  · cases hp
theorem forms_clean : ∀ g ∈ formsL, (∀ x ∈ bytesOf g.first, x ≠ 47) ∧ g.pieces ≤ 2 ∧ (g.pieces = 0 → g.numbers = false) := by
  intro g hg
  have h : ∀ g ∈ formsL, ((bytesOf g.first).all (fun x => decide (x ≠ 47)) && decide (g.pieces ≤ 2)) = true := by
    intro g hg
    simp only [formsL, List.mem_cons, List.not_mem_nil, or_false] at hg
    rcases hg with rfl | rfl | rfl | rfl | rfl | rfl | rfl | rfl | rfl | rfl <;> decide
  have := h g hg
  rw [Bool.and_eq_true, List.all_eq_true] at this
  refine ⟨fun x hx => of_decide_eq_true (this.1 x hx), of_decide_eq_true this.2, fun h0 => ?_⟩
  simp only [formsL, List.mem_cons, List.not_mem_nil, or_false] at hg
  rcases hg with rfl | rfl | rfl | rfl | rfl | rfl | rfl | rfl | rfl | rfl <;> first | rfl | cases h0
theorem dec_clean (n : Int) : ∀ x ∈ decF n, x ≠ 47 := by
  intro x hx
  have hd : ∀ f (m : Int), 0 ≤ m → ∀ x ∈ digF f m, x ≠ 47 := by
    intro f m hm x hx
    have := digF_all f m hm
    rw [List.all_eq_true] at this
    have := of_decide_eq_true (this x hx)
    omega
  unfold decF at hx
  split at hx
  · rcases List.mem_cons.1 hx with rfl | hx
    · decide
    · exact hd _ _ (by omega) x hx
  · exact hd _ _ (by omega) x hx
/-- The target's pieces: the first, and how many more there are at least; numbers: just so many. -/
theorem tgt_split (g : FormP) (hg : g ∈ formsL) (a : AskP) : ∃ ps, splitF 47 (tgtG g.first g.numbers a g.pieces) = [] :: bytesOf g.first :: ps ∧ g.pieces ≤ ps.length ∧ (g.numbers = true → ps.length = g.pieces) := by
  obtain ⟨hc, hp, hz⟩ := forms_clean g hg
  have h0 : ∀ l : List Int, splitF 47 (47 :: l) = [] :: splitF 47 l := fun l => by rw [splitF, if_pos rfl]
  match hq : g.pieces, hp with
  | 0, _ =>
    refine ⟨[], ?_, Nat.le_refl _, fun _ => rfl⟩
    rw [tgtG, h0, split_only hc]
  | 1, _ =>
    have e : tgtG g.first g.numbers a 1 = 47 :: (bytesOf g.first ++ 47 :: pieceG g.numbers a 0) := by simp [tgtG]
    rw [e, h0, split_first hc]
    refine ⟨_, rfl, by rw [split_len]; omega, fun hn => ?_⟩
    rw [hn, split_only (by unfold pieceG; rw [if_pos rfl]; exact dec_clean _)]; rfl
  | 2, _ =>
    have e : tgtG g.first g.numbers a 2 = 47 :: (bytesOf g.first ++ 47 :: (pieceG g.numbers a 0 ++ 47 :: pieceG g.numbers a 1)) := by simp [tgtG]
    rw [e, h0, split_first hc]
    refine ⟨_, rfl, ?_, fun hn => ?_⟩
    · rw [split_len, cntF_app, cntF, if_pos rfl]; omega
    · rw [hn, split_first (by unfold pieceG; rw [if_pos rfl]; exact dec_clean _), split_only (by unfold pieceG; rw [if_pos rfl]; exact dec_clean _)]; rfl
theorem formK_mem {k : Int} {g : FormP} (h : formK k = some g) : g ∈ formsL ∧ (g.kind : Int) = k := ⟨List.mem_of_find?_eq_some h, by have := List.find?_some h; simpa using this⟩
theorem bytesOf_inj {a b : ByteArray} (h : bytesOf a = bytesOf b) : a = b := by rw [str_of a, str_of b, h]
/-- What fits at the pieces of a form's own target has the form's kind. -/
theorem fit_kind : ∀ g ∈ formsL, ∀ g' ∈ formsL, g'.first = g.first → g.pieces ≤ g'.pieces → (g.numbers = true → g'.pieces = g.pieces) → g'.kind = g.kind := by
  have h : ∀ g ∈ formsL, ∀ g' ∈ formsL, (decide (g'.first.data = g.first.data) && decide (g.pieces ≤ g'.pieces) && (!g.numbers || decide (g'.pieces = g.pieces))) = true → g'.kind = g.kind := by
    intro g hg g' hg'
    simp only [formsL, List.mem_cons, List.not_mem_nil, or_false] at hg hg'
    rcases hg with rfl | rfl | rfl | rfl | rfl | rfl | rfl | rfl | rfl | rfl <;> rcases hg' with rfl | rfl | rfl | rfl | rfl | rfl | rfl | rfl | rfl | rfl <;> decide
  intro g hg g' hg' h1 h2 h3
  apply h g hg g' hg'
  rw [h1]
  cases hn : g.numbers
  · simp [h2]
  · simp [h3 hn]
theorem kind_same {a : AskP} {g : FormP} (hk : formK a.kind = some g) (hc : (parseP (reqG g a)).2 = 200) : (parseP (reqG g a)).1.kind = a.kind := by
  obtain ⟨hg, hgk⟩ := formK_mem hk
  obtain ⟨ps, hs, hle, hnum⟩ := tgt_split g hg a
  unfold parseP at hc ⊢
  cases hT : parseT (reqG g a).target with
  | none => rw [hT] at hc; cases hc
  | some x =>
    obtain ⟨q, m⟩ := x
    rw [hT] at hc
    simp only at hc ⊢
    have hq : q.kind = a.kind := by
      unfold parseT at hT
      cases hp : partsF (reqG g a).target with
      | none => rw [hp] at hT; cases hT
      | some x =>
        obtain ⟨f, qs⟩ := x
        obtain ⟨rfl, rfl⟩ := parts_of (show splitF 47 (reqG g a).target = _ from hs) hp
        rw [hp] at hT
        simp only at hT
        cases hpk : pickP (bytesOf g.first) qs with
        | none => rw [hpk] at hT; cases hT
        | some g' =>
          rw [hpk] at hT
          simp only at hT
          have hfit := List.find?_some hpk
          unfold FormP.fits at hfit
          rw [Bool.and_eq_true, ← str_of] at hfit
          have e1 : g'.first = g.first := by
            have := eq_of_beq hfit.1
            rw [ByteArray.toList_eq, ByteArray.toList_eq] at this
            apply ByteArray.ext
            apply Array.ext'
            exact this
          have e2 : g'.pieces = qs.length := by have := eq_of_beq hfit.2; omega
          have hkk := fit_kind g hg g' (pick_mem hpk) e1 (by omega) (fun hn => by rw [e2]; exact hnum hn)
          split at hT
          · simp only [Option.some.injEq, Prod.mk.injEq] at hT
            obtain ⟨rfl, rfl⟩ := hT
            unfold askP
            split <;> (simp only; rw [hkk]; exact hgk)
          · cases hT
    split
    · split
      · exact hq
      · exact hq
    · rename_i h; rw [if_neg h] at hc; cases hc
end Go.Proofs.Ytibegbmehpggbaa
