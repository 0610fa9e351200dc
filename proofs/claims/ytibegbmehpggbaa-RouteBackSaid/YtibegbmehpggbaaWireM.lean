/-
  Requests: what the laws' walks share.
-/
import Derived.Test.YtibegbmehpggbaaWireV
import Derived.Test.YtibegbmehpggbaaReq
import Derived.Test.YtibegbmehpggbaaArgs
namespace Go.Proofs.Ytibegbmehpggbaa
open Go.RowKit Go.Canon Go.Mem Go.Args
set_option linter.unusedVariables false
set_option linter.unusedSimpArgs false
theorem same13_self {w : World} {ok ok2 : Nat → Prop} (r : ReqP) (hr : r.Ok) (v u : Value) (h1 : Rd w ok v r.body.length (Disk.bytes8 r.body)) (h2 : Rd w ok2 u r.body.length (Disk.bytes8 r.body)) (hl : r.body.length ≤ 1000000) : Calls Try.prog 15 #[reqV r v, reqV r u] w (Rets (Still (.bool true) w)) := by
  have h := same13_c r r hr hr v u h1 h2 hl
  rw [decide_eq_true rfl] at h
  exact h
theorem whole_good (l : List Int) (hB : IsB l) : (Wire.whole l).1.Ok ∧ (Wire.whole l).1.body.length ≤ 2048 + l.length := by
  have key : ∀ (l : List Int) (r : Wire.S) (n : Nat) (i : Int), WGood r n → IsB l → (Wire.go r l i).1.Ok ∧ (Wire.go r l i).1.body.length ≤ 2048 + (n + l.length) := by
    intro l
    induction l with
    | nil => intro r n i _ _; exact ⟨⟨IsB.nil, IsB.nil, IsB.nil, IsB.nil⟩, by simp [Wire.go, Wire.zeroR]⟩
    | cons b l ih =>
      intro r n i hg hb
      have hg2 := hg.put (b := b) (hb b (by simp))
      rw [go_cons]
      split
      · exact ⟨⟨IsB.nil, IsB.nil, IsB.nil, IsB.nil⟩, by simp [Wire.zeroR]⟩
      · split
        · exact ⟨⟨hg2.xm, hg2.xt, hg2.xk, hg2.xb⟩, by have := hg2.bl; show (Wire.put r b).2.x.body.length ≤ _; rw [List.length_cons]; omega⟩
        · have h := ih _ (n + 1) (i + 1) hg2 (fun x hx => hb x (by simp [hx]))
          refine ⟨h.1, Nat.le_trans h.2 ?_⟩
          rw [List.length_cons]; omega
  have h := key l Wire.new 0 0 WGood.new hB
  refine ⟨h.1, Nat.le_trans h.2 (by omega)⟩
theorem byte_in {w : World} {v : Value} {l : List Int} (h : Has w (.slice (.int .u8)) [v] l) : IsB l := by
  obtain ⟨A, c, _, _, _, _, h5⟩ := h
  intro x hx
  obtain ⟨i, hi, rfl⟩ := List.getElem_of_mem hx
  obtain ⟨a, es, _, _, _, h6⟩ := h5 i l[i] (List.getElem?_eq_getElem hi)
  have := h6.2
  simp [Lit.wf, IntKind.min, IntKind.max, IntKind.signed, IntKind.bits] at this
  omega
end Go.Proofs.Ytibegbmehpggbaa
