/-
  Logs, plainly: a frame of which at most 32 bits in a row were turned halts the opening.
-/
import Derived.Test.YtmkpdoljaccpaaaCrcB
import Derived.Test.YtmkpdoljaccpaaaForgeM
namespace Go.Proofs.Ytmkpdoljaccpaaa
open Go.Disk (St)
set_option linter.unusedVariables false
set_option linter.unusedSimpArgs false
theorem laid_app (b : List (List Int)) : ∀ (a : List (List Int)) (i : Nat), laid i (a ++ b) = laid i a ++ laid (i + a.length) b := by
  intro a
  induction a with
  | nil => intro i; simp [laid]
  | cons x r ih => intro i; rw [List.cons_append, laid, ih, laid, List.append_assoc, List.length_cons, show i + (r.length + 1) = i + 1 + r.length by omega]
theorem scan_halt {all : List Int} {N : Nat} : ∀ (ts pre rest : List (List Int)) (ls : List (List Int)) (f : Nat), all = flatS (pre ++ (laid (ls.length + 1) ts ++ rest)) → N = (pre ++ (laid (ls.length + 1) ts ++ rest)).length → (∀ x ∈ pre ++ (laid (ls.length + 1) ts ++ rest), x.length = 64) → (∃ z, rest[0]? = some z ∧ blankF z = false) → (readF (flatS rest)).2.2.2 ≠ 0 → ts.length < f → (∀ t ∈ ts, t.length ≤ 16384) → ls.length + ts.length < 1000000 → scan all N f ls pre.length = none := by
  intro ts
  induction ts with
  | nil =>
    intro pre rest ls f ha hN h64 hz hr hf _ _
    obtain ⟨f', rfl⟩ : ∃ f', f = f' + 1 := ⟨f - 1, by simp at hf; omega⟩
    obtain ⟨z, hz, hzb⟩ := hz
    have hlr : 0 < rest.length := (List.getElem?_eq_some_iff.1 hz).1
    have hx : (pre ++ (laid (ls.length + 1) [] ++ rest))[pre.length]? = some z := by
      rw [List.getElem?_append_right (Nat.le_refl _), Nat.sub_self]
      simpa [laid] using hz
    have hdrop : all.drop (64 * pre.length) = flatS rest := by
      rw [ha, flat_drop h64, List.drop_append_of_le_length (Nat.le_refl _), List.drop_length, List.nil_append, laid, List.nil_append]
    have hnN : pre.length < N := by rw [hN]; simp [laid]; omega
    have hb : blankF (secF all pre.length) = false := by rw [ha, sec_flat h64 hx]; exact hzb
    rw [scan, if_pos ⟨hnN, hb⟩, hdrop, if_neg (fun h => hr h.1)]
  | cons t r ih =>
    intro pre rest ls f ha hN h64 hz hr hf hts hcnt
    obtain ⟨f', rfl⟩ : ∃ f', f = f' + 1 := ⟨f - 1, by simp at hf; omega⟩
    have ht := hts t (List.mem_cons_self ..)
    simp only [List.length_cons] at hf hcnt
    have h1 : (1 : Int) ≤ ((ls.length + 1 : Nat) : Int) := by omega
    have h2 : ((ls.length + 1 : Nat) : Int) < 18446744073709551616 := by omega
    obtain ⟨z, hzz⟩ := secs_flat _ (putF ((ls.length + 1 : Nat) : Int) t) (Nat.le_refl _)
    have hspan : (secs (putF ((ls.length + 1 : Nat) : Int) t)).length = spanF (t.length + 20) := by rw [secs_len, putF_len]
    have hs1 : 1 ≤ spanF (t.length + 20) := by unfold spanF; omega
    have hdrop : all.drop (64 * pre.length) = putF ((ls.length + 1 : Nat) : Int) t ++ (List.replicate z 0 ++ flatS (laid (ls.length + 1 + 1) r ++ rest)) := by
      rw [ha, flat_drop h64, List.drop_append_of_le_length (Nat.le_refl _), List.drop_length, List.nil_append, laid, List.append_assoc, flatS_app, hzz, List.append_assoc]
    have hnN : pre.length < N := by
      rw [hN, List.length_append, List.length_append, laid, List.length_append, hspan]; omega
    have hbl : blankF (secF all pre.length) = false := by
      cases hb : blankF (secF all pre.length) with
      | false => rfl
      | true =>
        exfalso
        unfold secF at hb
        rw [hdrop] at hb
        exact put_blank h1 h2 _ hb
    rw [scan, if_pos ⟨hnN, hbl⟩, hdrop, readF_put h1 h2 ht]
    simp only
    rw [if_pos ⟨by trivial, by omega⟩]
    have e : ((t.length : Int) + 20).toNat = t.length + 20 := by omega
    rw [e]
    have key := ih (pre ++ secs (putF ((ls.length + 1 : Nat) : Int) t)) rest (ls ++ [t]) f'
    rw [show (ls ++ [t]).length = ls.length + 1 by simp] at key
    have hpl : (pre ++ secs (putF ((ls.length + 1 : Nat) : Int) t)).length = pre.length + spanF (t.length + 20) := by rw [List.length_append, hspan]
    rw [hpl] at key
    have hsame : pre ++ secs (putF ((ls.length + 1 : Nat) : Int) t) ++ (laid (ls.length + 1 + 1) r ++ rest) = pre ++ (laid (ls.length + 1) (t :: r) ++ rest) := by rw [laid]; simp [List.append_assoc]
    exact key (by rw [hsame]; exact ha) (by rw [hsame]; exact hN) (by rw [hsame]; exact h64) hz hr (by omega) (fun x hx => hts x (List.mem_cons_of_mem _ hx)) (by omega)
/-! ### bits of bytes -/
theorem toB_get : ∀ (l : List Int) (j : Nat), (toB l)[j]? = (l[j / 8]?).bind fun x => (bitsN 8 x.toNat)[j % 8]? := by
  intro l
  induction l with
  | nil => intro j; simp [toB]
  | cons x r ih =>
    intro j
    rw [toB]
    by_cases h : j < 8
    · rw [List.getElem?_append_left (by rw [bitsN_len]; exact h), Nat.div_eq_of_lt h, Nat.mod_eq_of_lt h]; rfl
    · rw [List.getElem?_append_right (by rw [bitsN_len]; omega), bitsN_len, ih]
      obtain ⟨k, rfl⟩ : ∃ k, j = k + 8 := ⟨j - 8, by omega⟩
      rw [Nat.add_sub_cancel, show (k + 8) / 8 = k / 8 + 1 by omega, show (k + 8) % 8 = k % 8 by omega, List.getElem?_cons_succ]
/-- b' is b, turned where m says. -/
def Tog (m : Nat → Bool) (b b' : List Bool) : Prop := b'.length = b.length ∧ ∀ j, b'[j]? = (b[j]?).map fun x => xor x (m j)
theorem Tog.refl (b : List Bool) : Tog (fun _ => false) b b := ⟨rfl, fun j => by cases b[j]? <;> simp⟩
theorem Tog.trans {m n : Nat → Bool} {b c d : List Bool} (h : Tog m b c) (h' : Tog n c d) : Tog (fun j => xor (m j) (n j)) b d := by
  refine ⟨h'.1.trans h.1, fun j => ?_⟩
  rw [h'.2, h.2]
  cases b[j]? <;> simp
theorem Tog.congr {m n : Nat → Bool} {b c : List Bool} (h : Tog m b c) (e : ∀ j, m j = n j) : Tog n b c := ⟨h.1, fun j => by rw [h.2, e]⟩
theorem byte_tog : ∀ (x : Fin 256) (k m : Fin 8), (bitsN 8 (x.val ^^^ 2 ^ k.val))[m.val]? = ((bitsN 8 x.val)[m.val]?).map fun b => xor b (decide (m = k)) := by decide +kernel
theorem toB_set {l : List Int} {p k : Nat} (hp : p < l.length) (hk : k < 8) (hx : 0 ≤ l[p] ∧ l[p] < 256) : Tog (fun j => decide (j = 8 * p + k)) (toB l) (toB (l.set p (((l[p].toNat ^^^ 2 ^ k : Nat)) : Int))) := by
  refine ⟨by rw [toB_len, toB_len, List.length_set], fun j => ?_⟩
  rw [toB_get, toB_get, List.getElem?_set]
  by_cases h : p = j / 8
  · subst h
    rw [if_pos rfl, if_pos hp, List.getElem?_eq_getElem hp]
    have := byte_tog ⟨l[j / 8].toNat, by omega⟩ ⟨k, hk⟩ ⟨j % 8, Nat.mod_lt _ (by decide)⟩
    simp only [Option.bind_some, Int.toNat_natCast] at this ⊢
    rw [this]
    congr 1
    funext b
    congr 1
    simp only [Fin.mk.injEq]
    apply decide_eq_decide.2
    omega
  · rw [if_neg h]
    have : decide (j = 8 * p + k) = false := decide_eq_false (by omega)
    simp only [this]
    cases l[j / 8]? with
    | none => rfl
    | some x => simp
theorem xor_byte {x k : Nat} (hx : x < 256) (hk : k < 8) : x ^^^ 2 ^ k < 256 := Nat.xor_lt_two_pow (n := 8) hx (Nat.pow_lt_pow_right (by decide) hk)
theorem flat_len {l : List (List Int)} (h : ∀ x ∈ l, x.length = 64) : (flatS l).length = 64 * l.length := by rw [flatS_len h]; omega
theorem flat_inj : ∀ {a b : List (List Int)}, (∀ x ∈ a, x.length = 64) → (∀ x ∈ b, x.length = 64) → flatS a = flatS b → a = b := by
  intro a
  induction a with
  | nil =>
    intro b _ hb h
    have := congrArg List.length h
    rw [flat_len hb] at this
    simp [flatS] at this
    exact (List.eq_nil_of_length_eq_zero (by omega)).symm
  | cons x r ih =>
    intro b ha hb h
    cases b with
    | nil =>
      have := congrArg List.length h
      rw [flat_len ha] at this
      simp [flatS] at this
    | cons y q =>
      have hx := ha x (List.mem_cons_self ..)
      have hy := hb y (List.mem_cons_self ..)
      have h' : x ++ flatS r = y ++ flatS q := h
      obtain ⟨e1, e2⟩ := List.append_inj h' (by rw [hx, hy])
      rw [e1, ih (fun z hz => ha z (List.mem_cons_of_mem _ hz)) (fun z hz => hb z (List.mem_cons_of_mem _ hz)) e2]
theorem flat_take {now : List (List Int)} (h : ∀ x ∈ now, x.length = 64) (k : Nat) (hk : k ≤ now.length) : (flatS now).take (64 * k) = flatS (now.take k) := by
  have h1 : flatS now = flatS (now.take k) ++ flatS (now.drop k) := by rw [← flatS_app, List.take_append_drop]
  have h2 : (flatS (now.take k)).length = 64 * k := by rw [flat_len (fun x hx => h x (List.mem_of_mem_take hx)), List.length_take, Nat.min_eq_left hk]
  rw [h1, List.take_append_of_le_length (by omega), List.take_of_length_le (by omega)]
/-- The end: halted, or blank. -/
theorem halts_law {s s' : St} {L : LogS} (hA : Alive s L) {which : Nat} {t : List Int} (ht : L.texts[which]? = some t) {m : Nat → Bool} (hl : s'.now.length = s.now.length) (h64 : ∀ x ∈ s'.now, x.length = 64) (hB : IsB (flatS s'.now)) (hoff : s'.off = false)
    (hT : Tog m (toB (flatS s.now)) (toB (flatS s'.now))) {base : Nat} (hm : ∀ j, m j = true → base ≤ j ∧ j < base + 32 ∧ 512 * (laid 1 (L.texts.take which)).length ≤ j ∧ j < 512 * (laid 1 (L.texts.take which)).length + 8 * (t.length + 20)) (hb : 512 * (laid 1 (L.texts.take which)).length ≤ base) (hsome : ∃ j, m j = true) :
    (∃ z, s'.now[(laid 1 (L.texts.take which)).length]? = some z ∧ (blankF z = true ∨ openP s' = (13, none, s'))) := by
  obtain ⟨k, hk⟩ := hA.inv.now
  obtain ⟨hw, hwt⟩ := List.getElem?_eq_some_iff.1 ht
  have hsplit : L.texts = L.texts.take which ++ (t :: L.texts.drop (which + 1)) := by
    conv => lhs; rw [← List.take_append_drop which L.texts]
    rw [List.drop_eq_getElem_cons hw, hwt]
  have htk : (L.texts.take which).length = which := by rw [List.length_take]; omega
  have hq : ((which + 1 : Nat) : Int) = (((1 + which : Nat)) : Int) := by omega
  generalize hF : (laid 1 (L.texts.take which)).length = F at *
  obtain ⟨R, hR⟩ : ∃ R, s.now = laid 1 (L.texts.take which) ++ (secs (putF ((1 + which : Nat) : Int) t) ++ R) := by
    refine ⟨laid (1 + which + 1) (L.texts.drop (which + 1)) ++ List.replicate k Disk.zsec, ?_⟩
    rw [hk]
    conv => lhs; rw [hsplit, laid_app, htk, laid]
    simp [List.append_assoc]
  have hts : t.length ≤ 16384 := hA.inv.small t (by rw [hsplit]; simp)
  have htb : IsB t := hA.byte t (by rw [hsplit]; simp)
  have hcount := hA.inv.nexts
  have hmost := hA.inv.most
  obtain ⟨z, hz⟩ := secs_flat _ (putF ((1 + which : Nat) : Int) t) (Nat.le_refl _)
  have hspan : (secs (putF ((1 + which : Nat) : Int) t)).length = spanF (t.length + 20) := by rw [secs_len, putF_len]
  have hs1 : 1 ≤ spanF (t.length + 20) := by unfold spanF; omega
  have hFN : F + 1 ≤ s.now.length := by rw [hR, List.length_append, List.length_append, hspan, hF]; omega
  have h64s := hA.inv.n64
  have hpre64 : ∀ x ∈ laid 1 (L.texts.take which), x.length = 64 := laid_64 _ _
  -- the part ahead is as it was
  have hpre : s'.now.take F = laid 1 (L.texts.take which) := by
    apply flat_inj (fun x hx => h64 x (List.mem_of_mem_take hx)) hpre64
    have hbs : IsB (flatS s.now) := flat_byte (hA.inv.form hA.byte).byte
    have e1 : flatS (laid 1 (L.texts.take which)) = (flatS s.now).take (64 * F) := by
      rw [hR, flatS_app, List.take_left' (by rw [flat_len hpre64, hF])]
    rw [e1, ← flat_take h64 F (by omega)]
    apply toB_inj _ _ (IsB.take hB _) (IsB.take hbs _)
    rw [toB_take, toB_take]
    apply List.ext_getElem?
    intro j
    rw [List.getElem?_take, List.getElem?_take]
    split
    · rename_i hj
      rw [hT.2]
      have : m j = false := by
        cases hmj : m j with
        | false => rfl
        | true => have := hm j hmj; omega
      rw [this]
      cases (toB (flatS s.now))[j]? <;> simp
    · rfl
  have hrest : s'.now = laid 1 (L.texts.take which) ++ s'.now.drop F := by rw [← hpre, List.take_append_drop]
  have hz0 : ∃ z0, s'.now[F]? = some z0 := ⟨_, List.getElem?_eq_getElem (by omega)⟩
  obtain ⟨z0, hz0⟩ := hz0
  refine ⟨z0, hz0, ?_⟩
  cases hbz : blankF z0 with
  | true => exact .inl rfl
  | false =>
    right
    have hdf : flatS (s'.now.drop F) = (flatS s'.now).drop (64 * F) := (flat_drop h64 F).symm
    have hfl : (flatS s'.now).length = 64 * s.now.length := by rw [flat_len h64, hl]
    have hpl := putF_len ((1 + which : Nat) : Int) t
    have hroom : 64 * F + (t.length + 20) ≤ 64 * s.now.length := by
      have h1 : s.now.length = F + (spanF (t.length + 20) + R.length) := by rw [hR, List.length_append, List.length_append, hspan, hF]
      have h2 : t.length + 20 ≤ 64 * spanF (t.length + 20) := by unfold spanF; omega
      omega
    have hfr : (readF (flatS (s'.now.drop F))).2.2.2 ≠ 0 := by
      rw [hdf, ← List.take_append_drop (t.length + 20) ((flatS s'.now).drop (64 * F))]
      have hwin : ∀ j : Nat, j < 8 * (t.length + 20) → (toB (((flatS s'.now).drop (64 * F)).take (t.length + 20)))[j]? = ((toB (putF ((1 + which : Nat) : Int) t))[j]?).map fun x => xor x (m (512 * F + j)) := by
        intro j hj
        rw [toB_take, toB_drop, List.getElem?_take, if_pos hj, List.getElem?_drop, show 8 * (64 * F) + j = 512 * F + j by omega, hT.2]
        congr 1
        have e2 : (flatS s.now).drop (64 * F) = putF ((1 + which : Nat) : Int) t ++ (List.replicate z 0 ++ flatS R) := by
          rw [hR, flatS_app, List.drop_left' (by rw [flat_len hpre64, hF]), flatS_app, hz, List.append_assoc]
        have e3 : (toB (flatS s.now))[512 * F + j]? = ((toB (flatS s.now)).drop (8 * (64 * F)))[j]? := by rw [List.getElem?_drop]; congr 1; omega
        rw [e3, ← toB_drop, e2, toB_app, List.getElem?_append_left (by rw [toB_len, hpl]; exact hj)]
      have hlt : (toB (putF ((1 + which : Nat) : Int) t)).length = 8 * (t.length + 20) := by rw [toB_len, hpl]
      refine halt_frame (seq := ((1 + which : Nat) : Int)) (t := t) (by omega) (by omega) hts htb (IsB.take (IsB.drop hB _) _) (by rw [hpl, List.length_take, List.length_drop, hfl]; omega) (base - 512 * F) (fun j hj => ?_) (fun e => ?_)
      · by_cases hj8 : j < 8 * (t.length + 20)
        · have hmj : m (512 * F + j) = true := by
            cases hmj : m (512 * F + j) with
            | true => rfl
            | false =>
              exfalso; apply hj
              rw [hwin j hj8, hmj]
              cases (toB (putF ((1 + which : Nat) : Int) t))[j]? <;> simp
          have := hm _ hmj
          omega
        · exfalso; apply hj
          rw [List.getElem?_eq_none (by omega), List.getElem?_eq_none (by rw [toB_len, List.length_take, List.length_drop, hfl]; omega)]
      · obtain ⟨j, hj⟩ := hsome
        have hj2 := hm j hj
        have hw2 := hwin (j - 512 * F) (by omega)
        rw [← e, show 512 * F + (j - 512 * F) = j by omega, hj, List.getElem?_eq_getElem (by rw [hlt]; omega)] at hw2
        simp at hw2
    have hsc : scan (flatS s'.now) s'.now.length (s'.now.length + 1) [] 0 = none := by
      have := scan_halt (all := flatS s'.now) (N := s'.now.length) (L.texts.take which) [] (s'.now.drop F) [] (s'.now.length + 1) (by rw [List.nil_append]; show flatS s'.now = flatS (laid 1 (L.texts.take which) ++ s'.now.drop F); rw [← hrest]) (by rw [List.nil_append]; show s'.now.length = (laid 1 (L.texts.take which) ++ s'.now.drop F).length; rw [← hrest]) (by rw [List.nil_append]; show ∀ x ∈ laid 1 (L.texts.take which) ++ s'.now.drop F, x.length = 64; rw [← hrest]; exact h64) ⟨z0, by rw [List.getElem?_drop, Nat.add_zero]; exact hz0, hbz⟩ hfr (by omega) (fun t ht => hA.inv.small t (List.mem_of_mem_take ht)) (by simp; omega)
      exact this
    unfold openP
    rw [if_neg (by rw [hoff]; simp), hsc]
end Go.Proofs.Ytmkpdoljaccpaaa
