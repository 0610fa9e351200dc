/-
  What route prints, the wire prints with any token; it is read. Plainly.
-/
import Derived.Test.YtibegbmehpggbaaWireQ
import Derived.Test.YtibegbmehpggbaaPrintV
namespace Go.Proofs.Ytibegbmehpggbaa
set_option linter.unusedVariables false
set_option linter.unusedSimpArgs false
theorem splitS {x : Int} {f : List Int} (h : ∀ c ∈ f, c ≠ x) (r : List Int) : splitF x (f ++ x :: r) = f :: splitF x r := by
  induction f with
  | nil => rw [List.nil_append, splitF, if_pos rfl]
  | cons c t ih =>
    rw [List.cons_append, splitF, if_neg (h c (List.mem_cons_self ..)), ih (fun x hx => h x (List.mem_cons_of_mem _ hx))]
    rfl
theorem splitO {x : Int} {f : List Int} (h : ∀ c ∈ f, c ≠ x) : splitF x f = [f] := by
  induction f with
  | nil => rfl
  | cons c t ih =>
    rw [splitF, if_neg (h c (List.mem_cons_self ..)), ih (fun x hx => h x (List.mem_cons_of_mem _ hx))]
    rfl
namespace Wire
def prt (c : Int) : Bool := decide (32 ≤ c ∧ c ≤ 126)
theorem prt_iff {c : Int} : prt c = true ↔ 32 ≤ c ∧ c ≤ 126 := by simp [prt]
theorem badC_prt {c : Int} (h : prt c = true) : badC false c = false := by
  rw [prt_iff] at h
  have h1 : decide (c = 10) = false := decide_eq_false (by omega)
  have h2 : decide (c < 32) = false := decide_eq_false (by omega)
  have h3 : decide (126 < c) = false := decide_eq_false (by omega)
  unfold badC
  rw [h1, h2, h3]
  simp
theorem behind_snoc (l : List Int) (c : Int) : behind (l ++ [c]) = decide (c = 13) := by unfold behind; simp
theorem lineF_line : ∀ (s acc l : List Int) (a : Nat), s.all prt = true → behind acc = false → a + acc.length + s.length + 1 < 1024 → lineF a acc (s ++ 13 :: 10 :: l) = (acc ++ s, 0) := by
  intro s
  induction s with
  | nil =>
    intro acc l a _ hb hl
    simp only [List.length_nil] at hl
    rw [List.nil_append, lineF_more (by omega) (by rw [hb]; decide) (by decide), lineF_end (by rw [List.length_append, List.length_singleton]; omega) (by rw [behind_snoc]; decide)]
    simp
  | cons c s ih =>
    intro acc l a hs hb hl
    rw [List.all_cons, Bool.and_eq_true] at hs
    have hc := prt_iff.1 hs.1
    simp only [List.length_cons] at hl
    rw [List.cons_append, lineF_more (by omega) (by rw [hb, badC_prt hs.1]; simp) (by omega), ih (acc ++ [c]) l a hs.2 (by rw [behind_snoc]; exact decide_eq_false (by omega)) (by rw [List.length_append, List.length_singleton]; omega)]
    simp
/-- One line that is taken. -/
theorem doc_line {f : Nat} {r : S} {a : Nat} {s l : List Int} (hs : s.all prt = true) (ha : a + s.length + 1 < 1024) (hne : r.lines = 0 ∨ s ≠ []) {q : S} (he : lineEnd (nextS r a s) s = (0, q)) : docGo (f + 1) r a (s ++ 13 :: 10 :: l) = docGo f q (a + s.length + 2) l := by
  have h1 : lineF a [] (s ++ 13 :: 10 :: l) = (s, 0) := by rw [lineF_line s [] l a hs rfl (by simpa using ha)]; rfl
  have h2 : ¬ (r.lines ≠ 0 ∧ s = []) := fun h => hne.elim h.1 (fun h' => h' h.2)
  rw [docGo, h1]
  dsimp only
  rw [ite_ne0 rfl, if_neg h2, he, ite_ne0 rfl]
  congr 1
  rw [List.drop_append, List.drop_eq_nil_of_le (by omega), show s.length + 2 - s.length = 2 by omega]
  rfl
/-- The empty line. -/
theorem doc_end {f : Nat} {r : S} {a : Nat} {l : List Int} (hr : r.lines ≠ 0) (ha : a + 1 < 1024) (hse : r.se = false) (hl : r.left = (l.length : Int)) : docGo (f + 1) r a (13 :: 10 :: l) = ({ r.x with body := l }, (a : Int) + 2 + l.length, 0) := by
  have h1 : lineF a [] (13 :: 10 :: l) = ([], 0) := by have := lineF_line [] [] l a rfl rfl (by simpa using ha); simpa using this
  have h2 : r.lines ≠ 0 ∧ ([] : List Int) = [] := ⟨hr, rfl⟩
  have h3 : bodyF r l = ({ r.x with body := l }, (l.length : Int), 0) := by
    unfold bodyF
    rw [if_neg (by rw [hse]; simp), if_neg (by omega), hl]
    simp
  rw [docGo, h1]
  dsimp only
  rw [ite_ne0 rfl, if_pos h2, show (13 :: 10 :: l : List Int).drop 2 = l from rfl, h3, ite_ne0 rfl]
/-! ### the lines -/
theorem low_prt {c : Int} (h : tarC c = true) : prt c = true ∧ c ≠ 32 := by
  unfold tarC lowC digC at h
  simp only [Bool.or_eq_true, decide_eq_true_eq] at h
  rw [prt_iff]
  omega
theorem verb_cases {m : List Int} (h : verb m = true) : m = [71, 69, 84] ∨ m = [80, 85, 84] ∨ m = [80, 79, 83, 84] := by
  unfold verb at h
  simp only [Bool.or_eq_true, decide_eq_true_eq] at h
  rcases h with (h | h) | h
  · exact .inl h
  · exact .inr (.inl h)
  · exact .inr (.inr h)
theorem verb_no {m : List Int} (h : verb m = true) : (∀ c ∈ m, c ≠ 32) ∧ m.all prt = true ∧ m.length ≤ 4 := by
  rcases verb_cases h with rfl | rfl | rfl <;> decide
theorem tar_no {t : List Int} (h : target t = true) : (∀ c ∈ t, c ≠ 32) ∧ t.all prt = true ∧ t.length ≤ 64 := by
  unfold target at h
  simp only [Bool.and_eq_true, decide_eq_true_eq] at h
  refine ⟨fun c hc => (low_prt (List.all_eq_true.1 h.2 c hc)).2, List.all_eq_true.2 fun c hc => (low_prt (List.all_eq_true.1 h.2 c hc)).1, h.1.2⟩
theorem first_ok {r : S} {m t : List Int} (hm : verb m = true) (ht : target t = true) : first r (m ++ 32 :: (t ++ 32 :: http11)) = (0, { r with x := { r.x with method := m, target := t } }) := by
  unfold first
  rw [splitS (verb_no hm).1, splitS (tar_no ht).1, splitO (by decide)]
  dsimp only
  rw [if_pos ⟨rfl, hm, ht⟩]
theorem split_of {k v s : List Int} (h : s = k ++ 58 :: 32 :: v) (hk : k.all alC = true) (h1 : 1 ≤ k.length) (h2 : k.length ≤ 32) : split s = some (k.map low, v) := by
  have hno : ∀ c ∈ k, decide (c ≠ 58) = true := fun c hc => by
    have := List.all_eq_true.1 hk c hc
    unfold alC lowC upC at this
    simp only [Bool.or_eq_true, decide_eq_true_eq] at this
    exact decide_eq_true (by omega)
  have hu : upto s = k := by
    unfold upto
    rw [h, List.takeWhile_append_of_pos hno]
    simp
  unfold split
  rw [hu, h]
  rw [if_pos ⟨by simp, hk, h1, h2, by rw [List.getElem?_append_right (by omega)]; simp⟩]
  rw [List.drop_append, List.drop_eq_nil_of_le (by omega), show k.length + 2 - k.length = 2 by omega]
  rfl
theorem further_auth {r : S} {k : List Int} (h : r.sa = false) : further r (kA ++ k) = (0, { r with sa := true, x := { r.x with token := k } }) := by
  have e : split (kA ++ k) = some (kAuth, bearer ++ k) := split_of (k := [65, 117, 116, 104, 111, 114, 105, 122, 97, 116, 105, 111, 110]) rfl (by decide) (by decide) (by decide)
  unfold further
  rw [e]
  dsimp only
  rw [if_pos rfl, if_neg (by rw [h]; simp), if_neg (by simp [bearer])]
  rfl
theorem further_len {r : S} {n : Nat} (h : r.sl = false) (h2 : r.se = false) (hn : n ≤ 2048) : further r (kL ++ decF n) = (0, { r with sl := true, left := (n : Int) }) := by
  have e : split (kL ++ decF n) = some (kLen, decF n) := split_of (k := [67, 111, 110, 116, 101, 110, 116, 45, 76, 101, 110, 103, 116, 104]) rfl (by decide) (by decide) (by decide)
  obtain ⟨d1, d2⟩ := dec_ok (n := n) (by omega) (by omega)
  have d3 : readD (decF n) = ((n : Int), true) := by unfold readD; rw [if_pos ⟨d1, by omega⟩, d2]
  unfold further
  rw [e]
  dsimp only
  rw [if_neg (by decide), if_pos rfl, if_neg (by rw [h, h2]; simp), d3]
  dsimp only
  rw [if_neg (by simp), if_neg (by omega)]
theorem dec_prt (n : Nat) : (decF n).all prt = true := by
  unfold decF
  rw [if_neg (by omega)]
  exact List.all_eq_true.2 fun c hc => by
    have := List.all_eq_true.1 (digF_all 30 (n : Int) (by omega)) c hc
    unfold digC at this
    have := of_decide_eq_true this
    rw [prt_iff]; omega
def lPart (b : List Int) : List Int := if b = [] then [] else (kL ++ decF b.length) ++ crlf
def tPart (k : List Int) : List Int := if k = [] then [] else (kA ++ k) ++ crlf
theorem text_eq (x : ReqP) : text x = (x.method ++ 32 :: (x.target ++ 32 :: http11)) ++ 13 :: 10 :: (tPart x.token ++ (lPart x.body ++ (crlf ++ x.body))) := by
  have e : headT x = (x.method ++ 32 :: (x.target ++ 32 :: http11)) ++ [13, 10] := by unfold headT hv http11; simp
  unfold text front withL withA lPart tPart
  rw [e]
  split <;> split <;> simp
/-- Behind the tokens. -/
theorem doc_body {r : S} {a f : Nat} {b : List Int} (h0 : r.lines ≠ 0) (h16 : r.lines ≤ 10) (ha : a ≤ 900) (hsl : r.sl = false) (hse : r.se = false) (hl : r.left = 0) (hb : b.length ≤ 2048) : docGo (f + 2) r a (lPart b ++ (crlf ++ b)) = ({ r.x with body := b }, (a : Int) + (lPart b ++ (crlf ++ b)).length, 0) := by
  unfold lPart
  by_cases hn : b = []
  · rw [if_pos hn, List.nil_append]
    subst hn
    show docGo (f + 1 + 1) r a (13 :: 10 :: []) = _
    refine (doc_end (l := []) h0 (by omega) hse hl).trans ?_
    simp [crlf]
  · rw [if_neg hn]
    have hdl : (decF b.length).length ≤ 31 := dec_len _
    have e : (kL ++ decF b.length) ++ crlf ++ (crlf ++ b) = (kL ++ decF b.length) ++ 13 :: 10 :: (13 :: 10 :: b) := by simp [crlf]
    have hkl : (kL ++ decF b.length).length = 16 + (decF b.length).length := by rw [List.length_append]; rfl
    rw [e]
    have hle : lineEnd (nextS r a (kL ++ decF b.length)) (kL ++ decF b.length) = (0, { nextS r a (kL ++ decF b.length) with sl := true, left := (b.length : Int) }) := by
      unfold lineEnd
      rw [if_neg (by show ¬ r.lines + 1 = 1; omega), if_neg (by simp [kL]), if_neg (by show ¬ 17 < r.lines + 1; omega)]
      exact further_len hsl hse hb
    rw [doc_line (by rw [List.all_append, dec_prt]; decide) (by omega) (.inr (by simp [kL])) hle]
    have hlen : ((kL ++ decF b.length) ++ 13 :: 10 :: 13 :: 10 :: b).length = (kL ++ decF b.length).length + b.length + 4 := by
      rw [List.length_append]; simp only [List.length_cons]; omega
    refine Eq.trans (doc_end (l := b) ?_ ?_ ?_ ?_) ?_
    · show r.lines + 1 ≠ 0; omega
    · omega
    · exact hse
    · rfl
    refine Prod.ext rfl (Prod.ext ?_ rfl)
    show ((a + (kL ++ decF b.length).length + 2 : Nat) : Int) + 2 + b.length = (a : Int) + _
    rw [hlen]
    omega
theorem doc_token {r : S} {a f : Nat} {k b : List Int} (h0 : r.lines ≠ 0) (h16 : r.lines ≤ 9) (ha : a ≤ 800) (hsa : r.sa = false) (hsl : r.sl = false) (hse : r.se = false) (hl : r.left = 0) (ht : r.x.token = []) (hk : k.all prt = true) (hkl : k.length ≤ 60) (hb : b.length ≤ 2048) : docGo (f + 3) r a (tPart k ++ (lPart b ++ (crlf ++ b))) = ({ r.x with token := k, body := b }, (a : Int) + (tPart k ++ (lPart b ++ (crlf ++ b))).length, 0) := by
  unfold tPart
  by_cases hn : k = []
  · rw [if_pos hn, List.nil_append]
    subst hn
    show docGo (f + 1 + 2) r a _ = _
    rw [doc_body h0 (by omega) (by omega) hsl hse hl hb, ← ht]
  · rw [if_neg hn]
    have e : (kA ++ k) ++ crlf ++ (lPart b ++ (crlf ++ b)) = (kA ++ k) ++ 13 :: 10 :: (lPart b ++ (crlf ++ b)) := by simp [crlf]
    have hka : (kA ++ k).length = 22 + k.length := by rw [List.length_append]; rfl
    rw [e]
    have hle : lineEnd (nextS r a (kA ++ k)) (kA ++ k) = (0, { nextS r a (kA ++ k) with sa := true, x := { r.x with token := k } }) := by
      unfold lineEnd
      rw [if_neg (by show ¬ r.lines + 1 = 1; omega), if_neg (by simp [kA]), if_neg (by show ¬ 17 < r.lines + 1; omega)]
      exact further_auth hsa
    rw [doc_line (by rw [List.all_append, hk]; decide) (by omega) (.inr (by simp [kA])) hle]
    have hlen : ((kA ++ k) ++ 13 :: 10 :: (lPart b ++ (crlf ++ b))).length = (kA ++ k).length + (lPart b ++ (crlf ++ b)).length + 2 := by
      rw [List.length_append]; simp only [List.length_cons]; omega
    refine Eq.trans (doc_body (f := f) (b := b) ?_ ?_ ?_ ?_ ?_ ?_ hb) ?_
    · show r.lines + 1 ≠ 0; omega
    · show r.lines + 1 ≤ 10; omega
    · omega
    · exact hsl
    · exact hse
    · exact hl
    refine Prod.ext rfl (Prod.ext ?_ rfl)
    show ((a + (kA ++ k).length + 2 : Nat) : Int) + (lPart b ++ (crlf ++ b)).length = (a : Int) + _
    rw [hlen]
    omega
/-- What is printed of such a request is read as it was. -/
theorem whole_text {x : ReqP} (hm : verb x.method = true) (ht : target x.target = true) (hk : x.token.all prt = true) (hkl : x.token.length ≤ 60) (hb : x.body.length ≤ 2048) : whole (text x) = (x, ((text x).length : Int), 0) := by
  obtain ⟨m1, m2, m3⟩ := verb_no hm
  obtain ⟨t1, t2, t3⟩ := tar_no ht
  rw [whole_doc, docWhole]
  have htl : 4 ≤ (text x).length := by
    rw [text_eq]
    simp only [List.length_append, List.length_cons]
    have : http11.length = 8 := rfl
    omega
  obtain ⟨f, hf⟩ : ∃ f, (text x).length + 1 = f + 3 + 1 := ⟨(text x).length - 3, by omega⟩
  rw [hf, text_eq]
  have hh : http11.length = 8 := rfl
  have hll : (x.method ++ 32 :: (x.target ++ 32 :: http11)).length = x.method.length + x.target.length + 10 := by simp only [List.length_append, List.length_cons, hh]; omega
  have hle : lineEnd (nextS new 0 (x.method ++ 32 :: (x.target ++ 32 :: http11))) (x.method ++ 32 :: (x.target ++ 32 :: http11)) = (0, { nextS new 0 (x.method ++ 32 :: (x.target ++ 32 :: http11)) with x := ⟨x.method, x.target, [], []⟩ }) := by
    unfold lineEnd
    rw [if_pos (show (nextS new 0 (x.method ++ 32 :: (x.target ++ 32 :: http11))).lines = 1 from rfl)]
    exact first_ok hm ht
  rw [doc_line (by simp only [List.all_append, List.all_cons, m2, t2]; decide) (by omega) (.inl rfl) hle]
  have hlen : ((x.method ++ 32 :: (x.target ++ 32 :: http11)) ++ 13 :: 10 :: (tPart x.token ++ (lPart x.body ++ (crlf ++ x.body)))).length = (x.method ++ 32 :: (x.target ++ 32 :: http11)).length + (tPart x.token ++ (lPart x.body ++ (crlf ++ x.body))).length + 2 := by
    rw [List.length_append]; simp only [List.length_cons]; omega
  refine Eq.trans (doc_token (f := f) (k := x.token) (b := x.body) ?_ ?_ ?_ rfl rfl rfl rfl rfl hk hkl hb) ?_
  · show 0 + 1 ≠ 0; omega
  · show 0 + 1 ≤ 9; omega
  · omega
  refine Prod.ext rfl (Prod.ext ?_ rfl)
  show ((0 + (x.method ++ 32 :: (x.target ++ 32 :: http11)).length + 2 : Nat) : Int) + (tPart x.token ++ (lPart x.body ++ (crlf ++ x.body))).length = (((x.method ++ 32 :: (x.target ++ 32 :: http11)) ++ 13 :: 10 :: (tPart x.token ++ (lPart x.body ++ (crlf ++ x.body)))).length : Int)
  rw [hlen]
  omega
end Wire
/-! ### a target that says something -/
theorem joinP_sum (p : List Int) : ∀ {l : List (List Int)}, l ≠ [] → ((joinP p l).map fun q => q.length + 1).sum = p.length + (l.map fun q => q.length + 1).sum := by
  intro l h
  cases l with
  | nil => exact (h rfl).elim
  | cons a t => simp [joinP]; omega
theorem split_sum (x : Int) : ∀ t : List Int, ((splitF x t).map fun q => q.length + 1).sum = t.length + 1 := by
  intro t
  induction t with
  | nil => rfl
  | cons c t ih =>
    rw [splitF]
    split
    · simp [ih]; omega
    · rw [joinP_sum _ (splitF_ne x t), ih]; simp; omega
theorem split_all {x : Int} {P : Int → Bool} (hx : P x = true) : ∀ t : List Int, (∀ p ∈ splitF x t, p.all P = true) → t.all P = true := by
  intro t
  induction t with
  | nil => intro _; rfl
  | cons c t ih =>
    intro h
    rw [splitF] at h
    split at h
    · rename_i hc
      rw [List.all_cons, hc, hx, ih (fun p hp => h p (List.mem_cons_of_mem _ hp))]; rfl
    · have hne := splitF_ne x t
      cases hs : splitF x t with
      | nil => exact (hne hs).elim
      | cons a r =>
        rw [hs] at h ih
        have h1 := h (c :: a) (by simp [joinP])
        rw [List.all_cons, Bool.and_eq_true] at h1
        rw [List.all_cons, h1.1, ih (fun p hp => by
          rcases List.mem_cons.1 hp with rfl | hp
          · exact h1.2
          · exact h p (by simp [joinP, hp]))]; rfl
theorem parts_split {t f : List Int} {ps : List (List Int)} (h : partsF t = some (f, ps)) : splitF 47 t = [] :: f :: ps ∧ ps.length ≤ 2 := by
  unfold partsF fieldsF at h
  split at h
  · rename_i e
    split at e
    · simp at e
    · rename_i hle
      simp only [Prod.mk.injEq, and_true] at e
      simp only [Option.some.injEq, Prod.mk.injEq] at h
      obtain ⟨rfl, rfl⟩ := h
      rw [e] at hle
      simp only [List.length_cons] at hle
      exact ⟨e, by omega⟩
  · cases h
theorem forms_low : ∀ g ∈ formsL, (bytesOf g.first).all lowC = true ∧ (bytesOf g.first).length ≤ 9 ∧ Wire.verb (bytesOf g.method) = true := by
  intro g hg
  simp only [formsL, List.mem_cons, List.not_mem_nil, or_false] at hg
  rcases hg with rfl | rfl | rfl | rfl | rfl | rfl | rfl | rfl | rfl | rfl <;> decide
theorem piece_tar {num : Bool} {ps : List (List Int)} (h : okP num ps = true) : ∀ p ∈ ps, p.all Wire.tarC = true ∧ p.length ≤ 19 := by
  intro p hp
  unfold okP at h
  split at h
  · have := List.all_eq_true.1 h p hp
    unfold readD at this
    split at this
    · rename_i hr
      refine ⟨?_, okD_len hr.1 hr.2⟩
      have h1 := hr.1
      unfold okD at h1
      simp only [Bool.and_eq_true] at h1
      refine List.all_eq_true.2 fun c hc => ?_
      have := List.all_eq_true.1 h1.1.2 c hc
      unfold Wire.tarC; rw [this]; simp
    · cases this
  · have := List.all_eq_true.1 h p hp
    unfold nameF at this
    simp only [Bool.and_eq_true, decide_eq_true_eq] at this
    refine ⟨List.all_eq_true.2 fun c hc => ?_, by omega⟩
    have := List.all_eq_true.1 this.1.2 c hc
    unfold nameC at this
    unfold Wire.tarC digC
    simp only [Bool.or_eq_true] at this ⊢
    rcases this with (h | h) | h
    · exact .inl (.inl (.inl h))
    · exact .inl (.inl (.inr h))
    · exact .inl (.inr h)
theorem pieces_sum : ∀ {ps : List (List Int)}, (∀ p ∈ ps, p.length ≤ 19) → (ps.map fun q => q.length + 1).sum ≤ 20 * ps.length := by
  intro ps
  induction ps with
  | nil => intro _; decide
  | cons p ps ih =>
    intro h
    have h1 := h p (List.mem_cons_self ..)
    have h2 := ih (fun q hq => h q (List.mem_cons_of_mem _ hq))
    simp only [List.map_cons, List.sum_cons, List.length_cons]
    omega
theorem split_head {t : List Int} {l : List (List Int)} (h : splitF 47 t = [] :: l) (hl : l ≠ []) : t[0]? = some 47 := by
  cases t with
  | nil => simp only [splitF, List.cons.injEq, true_and] at h; exact (hl h.symm).elim
  | cons c r =>
    rw [splitF] at h
    split at h
    · rename_i hc; rw [hc]; rfl
    · cases hs : splitF 47 r with
      | nil => exact (splitF_ne 47 r hs).elim
      | cons a q => rw [hs] at h; simp [joinP] at h
theorem parse_target {t : List Int} (hB : IsB t) {q : AskP} {m : ByteArray} (h : parseT t = some (q, m)) : Wire.target t = true := by
  unfold parseT at h
  cases hp : partsF t with
  | none => rw [hp] at h; cases h
  | some x =>
    obtain ⟨f, ps⟩ := x
    rw [hp] at h
    simp only at h
    cases hk : pickP f ps with
    | none => rw [hk] at h; cases h
    | some g =>
      rw [hk] at h
      simp only at h
      split at h
      · rename_i hok
        obtain ⟨hs, h2⟩ := parts_split hp
        have hpt := piece_tar hok
        have hfit := List.find?_some hk
        unfold FormP.fits at hfit
        rw [Bool.and_eq_true] at hfit
        have hfb := (parts_byte hB hp).1
        have e1 : bytesOf g.first = f := by
          have := hfit.1
          rw [str_of g.first, str_eq (bytesOf_byte _) hfb] at this
          exact of_decide_eq_true this
        obtain ⟨l1, l2, _⟩ := forms_low g (pick_mem hk)
        rw [e1] at l1 l2
        have hsum := split_sum 47 t
        rw [hs] at hsum
        simp only [List.map_cons, List.sum_cons, List.length_nil] at hsum
        have hps := pieces_sum (fun p hp => (hpt p hp).2)
        have hall := split_all (x := 47) (P := Wire.tarC) (by decide) t (fun p hp => by
          rw [hs] at hp
          rcases List.mem_cons.1 hp with rfl | hp
          · rfl
          · rcases List.mem_cons.1 hp with rfl | hp
            · refine List.all_eq_true.2 fun c hc => ?_
              unfold Wire.tarC; rw [List.all_eq_true.1 l1 c hc]; rfl
            · exact (hpt p hp).1)
        unfold Wire.target
        rw [decide_eq_true (split_head hs (by simp)), decide_eq_true (show t.length ≤ 64 by omega), hall]; rfl
      · cases h
end Go.Proofs.Ytibegbmehpggbaa
