/-
  WalHalts: bits are turned, one by one; plainly.
-/
import Derived.Test.YtmkpdoljaccpaaaHalt
namespace Go.Proofs.Ytmkpdoljaccpaaa
open Go.RowKit Go.Mem
open Go.Disk (St)
set_option linter.unusedVariables false
set_option linter.unusedSimpArgs false
theorem flat_set : ∀ (now : List (List Int)) (n k : Nat) (x : List Int) (y : Int), (∀ x ∈ now, x.length = 64) → now[n]? = some x → k < 64 → flatS (now.set n (x.set k y)) = (flatS now).set (64 * n + k) y := by
  intro now
  induction now with
  | nil => intro n k x y _ h; simp at h
  | cons z r ih =>
    intro n k x y h64 hx hk
    have hz := h64 z (List.mem_cons_self ..)
    cases n with
    | zero =>
      obtain rfl : z = x := by simpa using hx
      show z.set k y ++ flatS r = (z ++ flatS r).set (64 * 0 + k) y
      rw [Nat.mul_zero, Nat.zero_add, List.set_append_left _ _ (by omega)]
    | succ n =>
      have := ih n k x y (fun u hu => h64 u (List.mem_cons_of_mem _ hu)) (by simpa using hx) hk
      show z ++ flatS (r.set n (x.set k y)) = (z ++ flatS r).set (64 * (n + 1) + k) y
      rw [this, List.set_append_right _ _ (by omega), hz, show 64 * (n + 1) + k - 64 = 64 * n + k by omega]
theorem flat_get {now : List (List Int)} (h64 : ∀ x ∈ now, x.length = 64) {n k : Nat} {x : List Int} (hx : now[n]? = some x) (hk : k < 64) : (flatS now)[64 * n + k]? = x[k]? := by
  have hxl := h64 x (List.mem_of_getElem? hx)
  obtain ⟨hn, he⟩ := List.getElem?_eq_some_iff.1 hx
  have h1 := flat_drop h64 n
  rw [List.drop_eq_getElem_cons hn, he] at h1
  have h2 : ((flatS now).drop (64 * n))[k]? = (flatS now)[64 * n + k]? := by rw [List.getElem?_drop]
  rw [← h2, h1]
  show (x ++ flatS (now.drop (n + 1)))[k]? = _
  rw [List.getElem?_append_left (by omega)]
theorem bytes_set {l : List Int} (h : IsB l) (k : Nat) {y : Int} (hy : 0 ≤ y ∧ y < 256) : IsB (l.set k y) := by
  intro z hz
  rcases List.mem_or_eq_of_mem_set hz with h1 | h1
  · exact h z h1
  · subst h1; exact hy
/-- A disk of which some bits were turned. -/
structure Half (s s' : St) (A n i : Nat) (tb : Bool) : Prop where
  len : s'.now.length = s.now.length
  n64 : ∀ x ∈ s'.now, x.length = 64
  byte : IsB (flatS s'.now)
  off : s'.off = false
  armed : s'.armed = false
  opn : s'.opn.length ≤ i
  same : tb = false → s'.now = s.now
  togs : ∃ m, Tog m (toB (flatS s.now)) (toB (flatS s'.now)) ∧ (∀ j, m j = true → A ≤ j ∧ j < A + i ∧ j < n) ∧ (tb = true → ∃ j, m j = true)
theorem Half.start {s : St} {L : LogS} (h : Alive s L) (ha : s.armed = false) (A n : Nat) : Half s s A n 0 false :=
  ⟨rfl, h.inv.n64, flat_byte (h.inv.form h.byte).byte, h.inv.off, ha, by rw [h.opn]; exact Nat.le_refl _, fun _ => rfl, fun _ => false, Tog.refl _, fun j h => (by cases h), fun h => (by cases h)⟩
theorem Half.pass {s s' : St} {A n i : Nat} {tb : Bool} (h : Half s s' A n i tb) : Half s s' A n (i + 1) tb := by
  obtain ⟨a, b, c, d, e, f, g, m, h1, h2, h3⟩ := h
  exact ⟨a, b, c, d, e, by omega, g, m, h1, fun j hj => by have := h2 j hj; omega, h3⟩
theorem Half.at {s s' : St} {A n i : Nat} {tb : Bool} (h : Half s s' A n i tb) {p : Nat} (hp : p < 512 * s.now.length) : ∃ x y, s'.now[p / 512]? = some x ∧ x.length = 64 ∧ x[p / 8 % 64]? = some y ∧ 0 ≤ y ∧ y < 256 := by
  have hn : p / 512 < s'.now.length := by rw [h.len]; omega
  have hx := List.getElem?_eq_getElem hn
  have hl := h.n64 _ (List.mem_of_getElem? hx)
  have hk : p / 8 % 64 < (s'.now[p / 512]).length := by omega
  have hy := List.getElem?_eq_getElem hk
  refine ⟨_, _, hx, hl, hy, ?_⟩
  have hg := flat_get h.n64 hx (k := p / 8 % 64) (by omega)
  rw [hy] at hg
  exact h.byte _ (List.mem_of_getElem? hg)
theorem Half.turn {s s' : St} {A n i : Nat} {tb : Bool} (h : Half s s' A n i tb) (hn : A + i < n) (hr : n ≤ 512 * s.now.length) {x : List Int} {y : Int} (hx : s'.now[(A + i) / 512]? = some x) (hxl : x.length = 64) (hy : x[(A + i) / 8 % 64]? = some y) (h0 : 0 ≤ y) (h1 : y < 256) :
    (s'.write (((A + i) / 512 : Nat) : Int) (x.set ((A + i) / 8 % 64) ((y.toNat ^^^ 2 ^ ((A + i) % 8) : Nat) : Int))).1 = 0 ∧ Half s (s'.write (((A + i) / 512 : Nat) : Int) (x.set ((A + i) / 8 % 64) ((y.toNat ^^^ 2 ^ ((A + i) % 8) : Nat) : Int))).2 A n (i + 1) true := by
  obtain ⟨a, b, c, d, e, f, g, m, t1, t2, t3⟩ := h
  generalize hp : A + i = p at *
  have hq : p / 512 < s'.now.length := by rw [a]; omega
  have hst : s'.step = (true, s') := by unfold St.step; rw [e]; rfl
  have hwr : s'.write ((p / 512 : Nat) : Int) (x.set (p / 8 % 64) ((y.toNat ^^^ 2 ^ (p % 8) : Nat) : Int)) = (0, { s' with now := s'.now.set (p / 512) (x.set (p / 8 % 64) ((y.toNat ^^^ 2 ^ (p % 8) : Nat) : Int)), opn := s'.opn ++ [(((p / 512 : Nat) : Int), x.set (p / 8 % 64) ((y.toNat ^^^ 2 ^ (p % 8) : Nat) : Int))] }) := by
    unfold St.write
    rw [if_neg (by rw [d]; simp), if_neg (by rw [List.length_set]; omega), hst, if_pos rfl, pad_full (by rw [List.length_set]; exact hxl), Int.toNat_natCast]
  rw [hwr]
  have hyl : y.toNat < 256 := by omega
  have hz := xor_byte (k := p % 8) hyl (by omega)
  have hfl : (flatS s'.now).length = 64 * s'.now.length := flat_len b
  have hpos : 64 * (p / 512) + p / 8 % 64 = p / 8 := by omega
  have hset : flatS (s'.now.set (p / 512) (x.set (p / 8 % 64) ((y.toNat ^^^ 2 ^ (p % 8) : Nat) : Int))) = (flatS s'.now).set (p / 8) ((y.toNat ^^^ 2 ^ (p % 8) : Nat) : Int) := by
    rw [flat_set _ _ _ _ _ b hx (by omega), hpos]
  have hg := flat_get b hx (k := p / 8 % 64) (by omega)
  rw [hpos, hy] at hg
  obtain ⟨hg1, hg2⟩ := List.getElem?_eq_some_iff.1 hg
  have ht := toB_set (l := flatS s'.now) (p := p / 8) (k := p % 8) hg1 (by omega) (by rw [hg2]; exact ⟨h0, h1⟩)
  rw [hg2, show 8 * (p / 8) + p % 8 = p by omega] at ht
  refine ⟨rfl, ?_, ?_, ?_, d, e, ?_, fun h => (by cases h), fun j => xor (m j) (decide (j = p)), ?_, ?_, ?_⟩
  · show (s'.now.set _ _).length = _
    rw [List.length_set]; exact a
  · intro z hz
    rcases List.mem_or_eq_of_mem_set hz with h1 | h1
    · exact b z h1
    · subst h1; rw [List.length_set]; exact hxl
  · show IsB (flatS (s'.now.set _ _))
    rw [hset]
    exact bytes_set c _ ⟨by omega, by omega⟩
  · show (s'.opn ++ [_]).length ≤ _
    rw [List.length_append, List.length_singleton]; omega
  · show Tog _ _ (toB (flatS (s'.now.set _ _)))
    rw [hset]
    exact t1.trans ht
  · intro j hj
    cases hm : m j with
    | true => have := t2 j hm; omega
    | false =>
      have hj : xor (m j) (decide (j = p)) = true := hj
      rw [hm] at hj
      have : j = p := by simpa using hj
      omega
  · intro _
    refine ⟨p, ?_⟩
    cases hm : m p with
    | true => have := t2 p hm; omega
    | false => show xor (m p) (decide (p = p)) = true; rw [hm]; simp
theorem bits_tog8 : ∀ (x : Fin 256) (k : Fin 8), bits .xor .u8 ((x.val : Nat) : Int) ((2 : Int) ^ k.val % 256) = (((x.val ^^^ 2 ^ k.val : Nat)) : Int) := by decide +kernel
theorem Half.turn2 {s s' : St} {F0 a n i : Nat} {tb : Bool} (h : Half s s' (512 * F0 + a) (512 * F0 + 8 * n) i tb) (hn : a + i < 8 * n) (hr : 64 * F0 + n ≤ 64 * s.now.length) :
    ∃ xs y, s'.now[F0 + (a + i) / 512]? = some xs ∧ xs.length = 64 ∧ xs[(a + i) / 8 % 64]? = some y ∧ ∃ s'', s'.write ((F0 : Int) + ((a : Int) + i) / 512) (xs.set ((a + i) / 8 % 64) (bits .xor .u8 y ((2 : Int) ^ ((a + i) % 8) % 256))) = (0, s'') ∧ Half s s'' (512 * F0 + a) (512 * F0 + 8 * n) (i + 1) true := by
  obtain ⟨xs, y, hx, hxl, hy, hy0, hy1⟩ := h.at (p := 512 * F0 + a + i) (by omega)
  obtain ⟨t1, t2⟩ := h.turn (by omega) (by omega) hx hxl hy hy0 hy1
  have hpn : (512 * F0 + a + i) / 512 = F0 + (a + i) / 512 := by omega
  have hpk : (512 * F0 + a + i) / 8 % 64 = (a + i) / 8 % 64 := by omega
  have hpb : (512 * F0 + a + i) % 8 = (a + i) % 8 := by omega
  rw [hpn] at hx
  rw [hpk] at hy
  rw [hpn, hpk, hpb] at t1 t2
  have hb := bits_tog8 ⟨y.toNat, by omega⟩ ⟨(a + i) % 8, by omega⟩
  simp only at hb
  rw [show ((y.toNat : Nat) : Int) = y by omega] at hb
  have hi : ((F0 + (a + i) / 512 : Nat) : Int) = (F0 : Int) + ((a : Int) + i) / 512 := by omega
  rw [← hb, hi] at t1 t2
  exact ⟨xs, y, hx, hxl, hy, _, Prod.ext t1 rfl, t2⟩
theorem Half.sync {s s' : St} {A n i : Nat} {tb : Bool} (h : Half s s' A n i tb) : ∃ s3 s4, s'.sync = (0, s3) ∧ s3.now = s'.now ∧ s3.off = false ∧ s3.opn = [] ∧ s3.arm 0 = (0, s4) ∧ s4.now = s'.now ∧ s4.off = false ∧ s4.opn = [] := by
  have hst : s'.step = (true, s') := by unfold St.step; rw [h.armed]; rfl
  refine ⟨{ s' with fast := St.settle s'.now s'.fast s'.opn, opn := [] }, { s' with fast := St.settle s'.now s'.fast s'.opn, opn := [], armed := true, left := 0 }, ?_, rfl, h.off, rfl, ?_, rfl, h.off, rfl⟩
  · unfold St.sync
    rw [if_neg (by rw [h.off]; simp), hst, if_pos rfl]
  · unfold St.arm
    rw [if_neg (by show ¬ s'.off = true; rw [h.off]; simp), if_neg (by decide)]
/-- Where a text's frame lies. -/
theorem frame_room {s : St} {L : LogS} (hA : Alive s L) {which : Nat} {t : List Int} (ht : L.texts[which]? = some t) : 64 * (laid 1 (L.texts.take which)).length + (t.length + 20) ≤ 64 * s.now.length ∧ t.length ≤ 16384 := by
  obtain ⟨k, hk⟩ := hA.inv.now
  obtain ⟨hw, hwt⟩ := List.getElem?_eq_some_iff.1 ht
  have hsplit : L.texts = L.texts.take which ++ (t :: L.texts.drop (which + 1)) := by
    conv => lhs; rw [← List.take_append_drop which L.texts]
    rw [List.drop_eq_getElem_cons hw, hwt]
  have h1 : (laid 1 L.texts).length = (laid 1 (L.texts.take which)).length + (spanF (t.length + 20) + (laid (1 + (L.texts.take which).length + 1) (L.texts.drop (which + 1))).length) := by
    conv => lhs; rw [hsplit, laid_app, laid]
    rw [List.length_append, List.length_append, secs_len, putF_len]
  have h2 : s.now.length = (laid 1 L.texts).length + k := by rw [hk, List.length_append, List.length_replicate]
  have h3 : t.length + 20 ≤ 64 * spanF (t.length + 20) := by unfold spanF; omega
  exact ⟨by omega, hA.inv.small t (by rw [hsplit]; simp)⟩
/-- The end: what the last opening finds. -/
theorem Half.ends {s s' s2 : St} {L : LogS} {F0 a i : Nat} {tb : Bool} (hA : Alive s L) {which : Nat} {t : List Int} (ht : L.texts[which]? = some t) (hF : (laid 1 (L.texts.take which)).length = F0) (h : Half s s' (512 * F0 + a) (512 * F0 + 8 * (t.length + 20)) i tb) (hi : i ≤ 32) (hs : s2.now = s'.now) (ho : s2.off = false) :
    (tb = true → ∃ z, s'.now[F0]? = some z ∧ (z = List.replicate 64 0 ∨ openP s2 = (13, none, s2))) ∧ (tb = false → openP s2 = (0, some ⟨L.texts, L.next, false⟩, s2)) := by
  refine ⟨fun e => ?_, fun e => ?_⟩
  · obtain ⟨m, t1, t2, t3⟩ := h.togs
    have h64 := h.n64
    have hl := h.len
    have hby := h.byte
    rw [← hs] at t1 h64 hl hby
    obtain ⟨z, hz, hzb⟩ := halts_law hA ht hl h64 hby ho t1 (base := 512 * F0 + a) (fun j hj => by have := t2 j hj; rw [hF]; omega) (by rw [hF]; omega) (t3 e)
    rw [hF] at hz
    refine ⟨z, by rw [← hs]; exact hz, ?_⟩
    rcases hzb with hb | hb
    · left
      have hzl := h64 z (List.mem_of_getElem? hz)
      unfold blankF at hb
      rw [List.all_eq_true] at hb
      rw [← hzl]
      exact List.eq_replicate_of_mem (fun b hm => by simpa using hb b hm)
    · exact .inr hb
  · have hn := h.same e
    exact WInv.opens ⟨ho, hA.inv.dead, by rw [hs, hn]; exact hA.inv.now, hA.inv.next, hA.inv.small, by rw [hs, hn]; exact hA.inv.most⟩
end Go.Proofs.Ytmkpdoljaccpaaa
