/-
  Answers: their bytes; what is read of any bytes. Plainly.
-/
import Derived.Test.YtibegbmehpggbaaDoorWireP
namespace Go.Proofs.YtibegbmehpggbaaDoor
set_option linter.unusedVariables false
set_option linter.unusedSimpArgs false
namespace Ans
def tab : List (Int × List Int) := [
  (200, [79, 75]),
  (400, [66, 97, 100, 32, 82, 101, 113, 117, 101, 115, 116]),
  (401, [85, 110, 97, 117, 116, 104, 111, 114, 105, 122, 101, 100]),
  (403, [70, 111, 114, 98, 105, 100, 100, 101, 110]),
  (404, [78, 111, 116, 32, 70, 111, 117, 110, 100]),
  (405, [77, 101, 116, 104, 111, 100, 32, 78, 111, 116, 32, 65, 108, 108, 111, 119, 101, 100]),
  (409, [67, 111, 110, 102, 108, 105, 99, 116]),
  (413, [67, 111, 110, 116, 101, 110, 116, 32, 84, 111, 111, 32, 76, 97, 114, 103, 101]),
  (422, [85, 110, 112, 114, 111, 99, 101, 115, 115, 97, 98, 108, 101, 32, 67, 111, 110, 116, 101, 110, 116]),
  (429, [84, 111, 111, 32, 77, 97, 110, 121, 32, 82, 101, 113, 117, 101, 115, 116, 115]),
  (503, [83, 101, 114, 118, 105, 99, 101, 32, 85, 110, 97, 118, 97, 105, 108, 97, 98, 108, 101]),
  (507, [73, 110, 115, 117, 102, 102, 105, 99, 105, 101, 110, 116, 32, 83, 116, 111, 114, 97, 103, 101])]
def codes : List Int := tab.map (·.1)
def words : List (List Int) := tab.map (·.2)
def reason (c : Int) : List Int := match tab.find? (fun p => decide (p.1 = c)) with
  | some p => p.2
  | none => []
def h1 : List Int := [72, 84, 84, 80, 47, 49, 46, 49, 32]
def h2 : List Int := [13, 10, 67, 111, 110, 116, 101, 110, 116, 45, 76, 101, 110, 103, 116, 104, 58, 32]
def fin4 : List Int := [13, 10, 13, 10]
/-- What stands ahead of the number. -/
def lead (c : Int) : List Int := h1 ++ decF c ++ [32] ++ reason c ++ h2
def text (c : Int) (b : List Int) : List Int := lead c ++ decF b.length ++ fin4 ++ b
def answer (c : Int) (b : List Int) : List Int × Int := if reason c = [] then ([], 2) else if 8192 < b.length then ([], 5) else (text c b, 0)
/-! ### what is read -/
/-- One begins with the other. -/
def beg (a b : List Int) : Bool := decide (a.take (min a.length b.length) = b.take (min a.length b.length))
def digs (l : List Int) : List Int := l.takeWhile digC
/-- Behind the lead: a number, the empty line, the body. -/
def sized (l : List Int) : (List Int × Int) × Int :=
  if (readD (digs l)).2 = false ∨ 8192 < (readD (digs l)).1 ∨ beg (l.drop (digs l).length) fin4 = false then (([], 0), 4)
  else if (l.length : Int) - (digs l).length - 4 < (readD (digs l)).1 then (([], 0), 3)
  else (((l.drop ((digs l).length + 4)).take (readD (digs l)).1.toNat, ((digs l).length : Int) + 4 + (readD (digs l)).1), 0)
/-- A code, the body, how many bytes; or why there is none. -/
def readFrom : List Int → List Int → (Int × List Int) × (Int × Int)
  | [], _ => ((0, []), (0, 4))
  | c :: cs, l =>
    if beg l (lead c) = false then readFrom cs l
    else if l.length ≤ (lead c).length then ((0, []), (0, 3))
    else if (sized (l.drop (lead c).length)).2 ≠ 0 then ((0, []), (0, (sized (l.drop (lead c).length)).2))
    else ((c, (sized (l.drop (lead c).length)).1.1), (((lead c).length : Int) + (sized (l.drop (lead c).length)).1.2, 0))
def read (l : List Int) : (Int × List Int) × (Int × Int) := readFrom codes l
/-! ### the document's -/
def counted (l : List Int) : (List Int × Int) × Int :=
  if (readD (digs l)).2 = false ∨ 8192 < (readD (digs l)).1 then (([], 0), 4)
  else match (l.drop (digs l).length).take 4 with
    | [] => (([], 0), 3)
    | a :: r => if a ≠ 13 then (([], 0), 4) else match r with
      | [] => (([], 0), 3)
      | b :: r => if b ≠ 10 then (([], 0), 4) else match r with
        | [] => (([], 0), 3)
        | c :: r => if c ≠ 13 then (([], 0), 4) else match r with
          | [] => (([], 0), 3)
          | d :: _ => if d ≠ 10 then (([], 0), 4)
            else if (l.length : Int) < (digs l).length + 4 + (readD (digs l)).1 then (([], 0), 3)
            else (((l.drop ((digs l).length + 4)).take (readD (digs l)).1.toNat, ((digs l).length : Int) + 4 + (readD (digs l)).1), 0)
def docFrom : List Int → Bool → List Int → (Int × List Int) × (Int × Int)
  | [], sh, _ => if sh = true then ((0, []), (0, 3)) else ((0, []), (0, 4))
  | c :: cs, sh, l =>
    if l.length ≤ (lead c).length then docFrom cs (sh || decide ((lead c).take l.length = l)) l
    else if l.take (lead c).length ≠ lead c then docFrom cs sh l
    else if (counted (l.drop (lead c).length)).2 ≠ 0 then ((0, []), (0, (counted (l.drop (lead c).length)).2))
    else ((c, (counted (l.drop (lead c).length)).1.1), (((lead c).length : Int) + (counted (l.drop (lead c).length)).1.2, 0))
def doc (l : List Int) : (Int × List Int) × (Int × Int) := docFrom codes false l

theorem digs_le (l : List Int) : (digs l).length ≤ l.length := (List.takeWhile_prefix digC).length_le
theorem counted_sized (l : List Int) : counted l = sized l := by
  have hk := digs_le l
  have hn := Wire.readD_pos (digs l)
  unfold counted sized
  by_cases h : (readD (digs l)).2 = false ∨ 8192 < (readD (digs l)).1
  · rw [if_pos h, if_pos (by rcases h with h | h; exact .inl h; exact .inr (.inl h))]
  · rw [if_neg h]
    have h3 : ((readD (digs l)).2 = false ∨ 8192 < (readD (digs l)).1 ∨ beg (l.drop (digs l).length) fin4 = false) ↔ beg (l.drop (digs l).length) fin4 = false := ⟨fun e => by rcases e with e | e | e; exact (h (.inl e)).elim; exact (h (.inr e)).elim; exact e, fun e => .inr (.inr e)⟩
    simp only [h3]
    have hr : (l.drop (digs l).length).length + (digs l).length = l.length := by rw [List.length_drop]; omega
    generalize l.drop (digs l).length = r at *
    rcases r with _ | ⟨a, _ | ⟨b, _ | ⟨c, _ | ⟨d, t⟩⟩⟩⟩
    · simp only [List.length_nil] at hr
      simp only [List.take_nil]
      rw [if_neg (by simp [beg]), if_pos (by omega)]
    · simp only [List.length_cons, List.length_nil] at hr
      simp only [List.take_succ_cons, List.take_nil]
      by_cases ha : a = 13
      · subst ha
        rw [if_neg (by decide), if_neg (by decide), if_pos (by omega)]
      · rw [if_pos ha, if_pos (by simp [beg, fin4, ha])]
    · simp only [List.length_cons, List.length_nil] at hr
      simp only [List.take_succ_cons, List.take_nil]
      by_cases ha : a = 13
      · subst ha
        by_cases hb : b = 10
        · subst hb
          rw [if_neg (by decide), if_neg (by decide), if_neg (by decide), if_pos (by omega)]
        · rw [if_neg (by decide), if_pos hb, if_pos (by simp [beg, fin4, hb])]
      · rw [if_pos ha, if_pos (by simp [beg, fin4, ha])]
    · simp only [List.length_cons, List.length_nil] at hr
      simp only [List.take_succ_cons, List.take_nil]
      by_cases ha : a = 13
      · subst ha
        by_cases hb : b = 10
        · subst hb
          by_cases hc : c = 13
          · subst hc
            rw [if_neg (by decide), if_neg (by decide), if_neg (by decide), if_neg (by decide), if_pos (by omega)]
          · rw [if_neg (by decide), if_neg (by decide), if_pos hc, if_pos (by simp [beg, fin4, hc])]
        · rw [if_neg (by decide), if_pos hb, if_pos (by simp [beg, fin4, hb])]
      · rw [if_pos ha, if_pos (by simp [beg, fin4, ha])]
    · simp only [List.length_cons] at hr
      simp only [List.take_succ_cons, List.take_zero]
      by_cases ha : a = 13
      · subst ha
        by_cases hb : b = 10
        · subst hb
          by_cases hc : c = 13
          · subst hc
            by_cases hd : d = 10
            · subst hd
              have hbg : ¬ beg (13 :: 10 :: 13 :: 10 :: t) fin4 = false := by simp [beg, fin4]
              rw [if_neg (by decide), if_neg (by decide), if_neg (by decide), if_neg (by decide), if_neg hbg]
              by_cases hl : (l.length : Int) < (digs l).length + 4 + (readD (digs l)).1
              · rw [if_pos hl, if_pos (by omega)]
              · rw [if_neg hl, if_neg (by omega)]
            · rw [if_neg (by decide), if_neg (by decide), if_neg (by decide), if_pos hd, if_pos (by simp [beg, fin4, hd])]
          · rw [if_neg (by decide), if_neg (by decide), if_pos hc, if_pos (by simp [beg, fin4, hc])]
        · rw [if_neg (by decide), if_pos hb, if_pos (by simp [beg, fin4, hb])]
      · rw [if_pos ha, if_pos (by simp [beg, fin4, ha])]
theorem beg_short {l y : List Int} (h : l.length ≤ y.length) : beg l y = decide (y.take l.length = l) := by
  unfold beg
  rw [Nat.min_eq_left h, List.take_length]
  exact decide_eq_decide.2 eq_comm
theorem beg_long {l y : List Int} (h : y.length ≤ l.length) : beg l y = decide (l.take y.length = y) := by
  unfold beg
  rw [Nat.min_eq_right h, List.take_length]
theorem doc_true : ∀ (cs : List Int) (l : List Int), (∀ d ∈ cs, (lead d).length < l.length → l.take (lead d).length ≠ lead d) → docFrom cs true l = ((0, []), (0, 3)) := by
  intro cs
  induction cs with
  | nil => intro l _; rfl
  | cons d cs ih =>
    intro l h
    rw [docFrom]
    have ih' := ih l (fun e he => h e (List.mem_cons_of_mem _ he))
    by_cases hl : l.length ≤ (lead d).length
    · rw [if_pos hl, Bool.true_or, ih']
    · rw [if_neg hl, if_pos (h d (List.mem_cons_self ..) (by omega)), ih']
theorem doc_from : ∀ (cs : List Int) (l : List Int), cs.Pairwise (fun c d => (lead c).take (lead d).length ≠ lead d) → docFrom cs false l = readFrom cs l := by
  intro cs
  induction cs with
  | nil => intro l _; rfl
  | cons c cs ih =>
    intro l h
    rw [List.pairwise_cons] at h
    rw [docFrom, readFrom, counted_sized]
    by_cases hl : l.length ≤ (lead c).length
    · rw [if_pos hl, beg_short hl, Bool.false_or]
      by_cases he : (lead c).take l.length = l
      · rw [decide_eq_true he, if_neg (by simp), if_pos hl]
        refine doc_true cs l (fun d hd hlt e => h.1 d hd ?_)
        rw [← he, List.take_take, Nat.min_eq_left (by omega)] at e
        exact e
      · rw [decide_eq_false he, if_pos rfl]
        exact ih l h.2
    · rw [if_neg hl, beg_long (by omega)]
      by_cases he : l.take (lead c).length = lead c
      · rw [if_neg (fun h => h he), decide_eq_true he, if_neg (by decide : ¬ true = false), if_neg hl]
      · rw [decide_eq_false he, if_pos he, if_pos rfl]
        exact ih l h.2
theorem leads_apart : ∀ c ∈ codes, ∀ d ∈ codes, c ≠ d → beg (lead c) (lead d) = false := by
  have h : (codes.all fun c => codes.all fun d => decide (c = d) || !beg (lead c) (lead d)) = true := by decide +kernel
  intro c hc d hd hn
  have := List.all_eq_true.1 (List.all_eq_true.1 h c hc) d hd
  rw [decide_eq_false hn] at this
  simpa using this
theorem codes_nodup : codes.Nodup := by decide
theorem not_front {c d : Int} (hc : c ∈ codes) (hd : d ∈ codes) (hn : c ≠ d) : (lead c).take (lead d).length ≠ lead d := by
  intro e
  have h := leads_apart c hc d hd hn
  have hl : (lead d).length ≤ (lead c).length := by
    have := congrArg List.length e
    rw [List.length_take] at this
    omega
  rw [beg_long hl, decide_eq_true e] at h
  cases h
theorem codes_pair : codes.Pairwise (fun c d => (lead c).take (lead d).length ≠ lead d) := by
  have h : ∀ cs : List Int, (∀ c ∈ cs, c ∈ codes) → cs.Nodup → cs.Pairwise (fun c d => (lead c).take (lead d).length ≠ lead d) := by
    intro cs
    induction cs with
    | nil => intro _ _; exact List.Pairwise.nil
    | cons c cs ih =>
      intro h1 h2
      rw [List.nodup_cons] at h2
      exact List.Pairwise.cons (fun d hd => not_front (h1 c (List.mem_cons_self ..)) (h1 d (List.mem_cons_of_mem _ hd)) (fun e => h2.1 (e ▸ hd))) (ih (fun d hd => h1 d (List.mem_cons_of_mem _ hd)) h2.2)
  exact h codes (fun _ h => h) codes_nodup
theorem doc_read (l : List Int) : doc l = read l := doc_from codes l codes_pair
/-! ### there and back -/
theorem reason_mem {c : Int} (h : reason c ≠ []) : c ∈ codes := by
  unfold reason at h
  split at h
  · rename_i p hp
    have h1 := List.mem_of_find?_eq_some hp
    have h2 := List.find?_some hp
    have h3 := of_decide_eq_true h2
    rw [← h3]
    exact List.mem_map.2 ⟨p, h1, rfl⟩
  · exact (h rfl).elim
theorem dec_digs (n : Nat) : (decF n).all digC = true := by
  unfold decF
  rw [if_neg (by omega)]
  exact digF_all 30 (n : Int) (by omega)
theorem digs_dec {n : Nat} {x : Int} (hx : digC x = false) (r : List Int) : digs (decF n ++ x :: r) = decF n := by
  unfold digs
  rw [List.takeWhile_append_of_pos (fun c hc => List.all_eq_true.1 (dec_digs n) c hc), List.takeWhile_cons_of_neg (by simp [hx]), List.append_nil]
theorem digs_all {l : List Int} (h : l.all digC = true) : digs l = l := by
  unfold digs
  have := List.takeWhile_append_of_pos (l₂ := []) (fun c hc => List.all_eq_true.1 h c hc)
  simpa using this
theorem readD_dec {n : Nat} (h : n ≤ 8192) : readD (decF n) = ((n : Int), true) := by
  obtain ⟨d1, d2⟩ := dec_ok (n := n) (by omega) (by omega)
  unfold readD
  rw [if_pos ⟨d1, by omega⟩, d2]
/-- What is sized of a beginning that bears the number, the empty line and what stands behind. -/
theorem sized_of {n : Nat} (hn : n ≤ 8192) (r : List Int) (j : Nat) : sized (decF n ++ (fin4 ++ r).take j) = if ((fin4 ++ r).take j).length < 4 + n then (([], 0), 3) else ((r.take n, ((decF n).length : Int) + 4 + n), 0) := by
  by_cases h0 : j = 0
  · subst h0
    rw [List.take_zero, List.append_nil, if_pos (by simp; omega)]
    unfold sized
    rw [digs_all (dec_digs n), readD_dec hn, List.drop_length]
    rw [if_neg (by simp [beg]; omega), if_pos (by omega)]
  · obtain ⟨j, rfl⟩ : ∃ k, j = k + 1 := ⟨j - 1, by omega⟩
    have e : (fin4 ++ r).take (j + 1) = 13 :: ([10, 13, 10] ++ r).take j := rfl
    have hbg : beg ((fin4 ++ r).take (j + 1)) fin4 = true := by
      unfold beg
      apply decide_eq_true
      rw [List.take_take, List.length_take, List.length_append]
      have h4 : fin4.length = 4 := rfl
      rw [h4]
      rw [List.take_append_of_le_length (by rw [h4]; omega)]
      congr 1
      omega
    have hd : digs (decF n ++ (fin4 ++ r).take (j + 1)) = decF n := by rw [e]; exact digs_dec (by decide) _
    unfold sized
    rw [hd, readD_dec hn, List.drop_append_of_le_length (Nat.le_refl _), List.drop_length, List.nil_append, hbg]
    rw [if_neg (by simp; omega)]
    rw [List.length_append]
    simp only
    by_cases hl : ((fin4 ++ r).take (j + 1)).length < 4 + n
    · rw [if_pos hl, if_pos (by omega)]
    · rw [if_neg hl, if_neg (by omega)]
      have hl2 := hl
      rw [List.length_take, List.length_append] at hl2
      have h4 : fin4.length = 4 := rfl
      rw [List.drop_append, List.drop_eq_nil_of_le (by omega), List.nil_append, show (decF n).length + 4 - (decF n).length = 4 by omega]
      have e2 : ((fin4 ++ r).take (j + 1)).drop 4 = r.take (j + 1 - 4) := by
        rw [List.drop_take]; rfl
      rw [e2, Int.toNat_natCast, List.take_take, Nat.min_eq_left (by omega)]
theorem dec_front {n : Nat} (hn : n ≤ 8192) {j : Nat} (h0 : 0 < j) (hj : j ≤ (decF n).length) : okD ((decF n).take j) = true ∧ valF ((decF n).take j) ≤ 8192 := by
  obtain ⟨d1, d2⟩ := dec_ok (n := n) (by omega) (by omega)
  have hall := dec_digs n
  have hta : ((decF n).take j).all digC = true := List.all_eq_true.2 fun c hc => List.all_eq_true.1 hall c (List.take_subset _ _ hc)
  have hlt : ((decF n).take j).length = j := by rw [List.length_take]; omega
  refine ⟨?_, ?_⟩
  · unfold okD at d1 ⊢
    simp only [Bool.and_eq_true] at d1 ⊢
    refine ⟨⟨decide_eq_true (by omega), hta⟩, ?_⟩
    rw [List.take_take, Nat.min_eq_left (by omega)]
    rcases Bool.or_eq_true _ _ ▸ d1.2 with h | h
    · have := of_decide_eq_true h
      rw [decide_eq_true (by omega : ((decF n).take j).length ≤ 1), Bool.true_or]
    · rw [h, Bool.or_true]
  · have hge : ∀ (b a : List Int), b.all digC = true → 0 ≤ valF a → valF a ≤ valF (a ++ b) := by
      intro b
      induction b with
      | nil => intro a _ _; rw [List.append_nil]; exact Int.le_refl _
      | cons c b ih =>
        intro a h h2
        rw [List.all_cons, Bool.and_eq_true] at h
        have hc := of_decide_eq_true h.1
        have e : valF (a ++ [c]) = 10 * valF a + (c - 48) := valF_snoc a c
        have := ih (a ++ [c]) h.2 (by omega)
        rw [List.append_assoc, List.singleton_append] at this
        omega
    have := hge ((decF n).drop j) ((decF n).take j) (List.all_eq_true.2 fun c hc => List.all_eq_true.1 hall c (List.drop_subset _ _ hc)) (valF_pos hta)
    rw [List.take_append_drop, d2] at this
    omega
theorem sized_dec {n : Nat} (hn : n ≤ 8192) {j : Nat} (h0 : 0 < j) (hj : j ≤ (decF n).length) : sized ((decF n).take j) = (([], 0), 3) := by
  obtain ⟨h1, h2⟩ := dec_front hn h0 hj
  have hta : ((decF n).take j).all digC = true := List.all_eq_true.2 fun c hc => List.all_eq_true.1 (dec_digs n) c (List.take_subset _ _ hc)
  have hp := valF_pos hta
  have hr : readD ((decF n).take j) = (valF ((decF n).take j), true) := by unfold readD; rw [if_pos ⟨h1, by omega⟩]
  unfold sized
  rw [digs_all hta, hr, List.drop_length]
  simp only
  rw [if_neg (by simp [beg]; omega), if_pos (by omega)]
theorem beg_app {x y : List Int} (h : beg x y = false) (z : List Int) : beg (x ++ z) y = false := by
  by_cases hl : y.length ≤ x.length
  · rw [beg_long hl] at h
    rw [beg_long (by rw [List.length_append]; omega), List.take_append_of_le_length hl]
    exact h
  · rw [beg_short (by omega)] at h
    have h := of_decide_eq_false h
    cases hb : beg (x ++ z) y with
    | false => rfl
    | true =>
      exfalso
      apply h
      unfold beg at hb
      have := congrArg (List.take x.length) (of_decide_eq_true hb)
      rw [List.take_take, List.take_take, Nat.min_eq_left (by rw [List.length_append]; omega), List.take_append_of_le_length (Nat.le_refl _), List.take_length] at this
      exact this.symm
theorem beg_self (x z : List Int) : beg (x ++ z) x = true := by
  rw [beg_long (by rw [List.length_append]; omega), List.take_append_of_le_length (Nat.le_refl _), List.take_length]
  exact decide_eq_true rfl
/-- Read of what begins with a code's lead. -/
theorem read_lead {c : Int} (hc : c ∈ codes) (z : List Int) (hz : z ≠ []) : ∀ cs : List Int, (∀ d ∈ cs, d ∈ codes) → c ∈ cs → readFrom cs (lead c ++ z) = if (sized z).2 ≠ 0 then ((0, []), (0, (sized z).2)) else ((c, (sized z).1.1), (((lead c).length : Int) + (sized z).1.2, 0)) := by
  intro cs
  induction cs with
  | nil => intro _ h; cases h
  | cons d cs ih =>
    intro h1 h2
    rw [readFrom]
    by_cases hd : c = d
    · subst hd
      have hzl : 0 < z.length := List.length_pos_iff.2 hz
      rw [beg_self, if_neg (by simp), if_neg (by rw [List.length_append]; omega), List.drop_append_of_le_length (Nat.le_refl _), List.drop_length, List.nil_append]
    · rw [if_pos (beg_app (leads_apart c hc d (h1 d (List.mem_cons_self ..)) hd) z)]
      exact ih (fun e he => h1 e (List.mem_cons_of_mem _ he)) (by rcases List.mem_cons.1 h2 with h | h; exact (hd h).elim; exact h)
/-- Read of a beginning of a code's lead. -/
theorem read_front {c : Int} (hc : c ∈ codes) {k : Nat} (hk : k ≤ (lead c).length) : ∀ cs : List Int, (∀ d ∈ cs, d ∈ codes) → c ∈ cs → readFrom cs ((lead c).take k) = ((0, []), (0, 3)) := by
  have hkl : ((lead c).take k).length = k := by rw [List.length_take]; omega
  intro cs
  induction cs with
  | nil => intro _ h; cases h
  | cons d cs ih =>
    intro h1 h2
    rw [readFrom]
    by_cases hd : c = d
    · subst hd
      rw [beg_short (by omega), hkl, decide_eq_true rfl, if_neg (by simp), if_pos (by omega)]
    · cases hb : beg ((lead c).take k) (lead d) with
      | false =>
        rw [if_pos rfl]
        exact ih (fun e he => h1 e (List.mem_cons_of_mem _ he)) (by rcases List.mem_cons.1 h2 with h | h; exact (hd h).elim; exact h)
      | true =>
        rw [if_neg (by simp)]
        by_cases hl : ((lead c).take k).length ≤ (lead d).length
        · rw [if_pos hl]
        · exfalso
          rw [beg_long (by omega)] at hb
          have := of_decide_eq_true hb
          rw [List.take_take, Nat.min_eq_left (by omega)] at this
          exact not_front hc (h1 d (List.mem_cons_self ..)) hd this
/-- What is printed is read, whatever stands behind. -/
theorem told {c : Int} {b : List Int} (h : reason c ≠ []) (hb : b.length ≤ 8192) (z : List Int) : read (text c b ++ z) = ((c, b), (((text c b).length : Int), 0)) := by
  have hc := reason_mem h
  have e : text c b ++ z = lead c ++ (decF b.length ++ (fin4 ++ (b ++ z))) := by unfold text; simp only [List.append_assoc]
  have hs := sized_of hb (b ++ z) (fin4 ++ (b ++ z)).length
  have h4 : fin4.length = 4 := rfl
  rw [List.take_length, if_neg (by rw [List.length_append, List.length_append, h4]; omega)] at hs
  unfold read
  rw [e, read_lead hc _ (by simp [fin4]) codes (fun _ h => h) hc, hs]
  rw [if_neg (by simp)]
  simp only
  rw [List.take_append_of_le_length (Nat.le_refl _), List.take_length]
  unfold text
  simp only [List.length_append, h4]
  refine Prod.ext rfl (Prod.ext ?_ rfl)
  simp only
  omega
/-- A beginning of it is too short. -/
theorem told_front {c : Int} {b : List Int} (h : reason c ≠ []) (hb : b.length ≤ 8192) {k : Nat} (hk : k < (text c b).length) : read ((text c b).take k) = ((0, []), (0, 3)) := by
  have hc := reason_mem h
  have e : text c b = lead c ++ (decF b.length ++ (fin4 ++ b)) := by unfold text; simp only [List.append_assoc]
  have h4 : fin4.length = 4 := rfl
  rw [e] at hk ⊢
  unfold read
  by_cases h1 : k ≤ (lead c).length
  · rw [List.take_append_of_le_length h1]
    exact read_front hc h1 codes (fun _ h => h) hc
  · obtain ⟨j, rfl⟩ : ∃ j, k = (lead c).length + j := ⟨k - (lead c).length, by omega⟩
    rw [List.take_append, List.take_of_length_le (by omega), show (lead c).length + j - (lead c).length = j by omega]
    have hj0 : 0 < j := by omega
    rw [List.length_append, List.length_append, List.length_append, h4] at hk
    have hs : sized ((decF b.length ++ (fin4 ++ b)).take j) = (([], 0), 3) := by
      by_cases h2 : j ≤ (decF b.length).length
      · rw [List.take_append_of_le_length h2]
        exact sized_dec hb hj0 h2
      · rw [List.take_append, List.take_of_length_le (by omega), sized_of hb, if_pos (by rw [List.length_take, List.length_append, h4]; omega)]
    have hne : (decF b.length ++ (fin4 ++ b)).take j ≠ [] := by
      intro e2
      have := congrArg List.length e2
      rw [List.length_take, List.length_append, List.length_append, h4, List.length_nil] at this
      omega
    rw [read_lead hc _ hne codes (fun _ h => h) hc, hs, if_pos (by simp)]
end Ans
end Go.Proofs.YtibegbmehpggbaaDoor
