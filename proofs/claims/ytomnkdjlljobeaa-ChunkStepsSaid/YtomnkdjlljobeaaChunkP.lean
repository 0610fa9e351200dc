/-
  chunk.Print: the walk.
-/
import Derived.Test.YtomnkdjlljobeaaChunkG
namespace Go.Proofs.Ytomnkdjlljobeaa
open Go.RowKit Go.Canon Go.Mem Go.Args
set_option linter.unusedVariables false
set_option linter.unusedSimpArgs false
/-! ### strings of bytes -/
def bstr (l : List Int) : ByteArray := ⟨(l.map fun x => UInt8.ofNat x.toNat).toArray⟩
theorem bstr_size (l : List Int) : (bstr l).size = l.length := by simp [bstr, ByteArray.size]
theorem bstr_cells {l : List Int} (h : Byte l) : Lib.strCells (bstr l) = Disk.bytes8 l := by
  unfold Lib.strCells bstr Disk.bytes8
  simp only [List.map_map]
  apply List.map_congr_left
  intro x hx
  have := h x hx
  simp
  omega
theorem bstr_app (a b : List Int) : bstr a ++ bstr b = bstr (a ++ b) := by
  apply ByteArray.ext
  simp [bstr]
theorem hexc_byte (d : Nat) (h : d < 16) : 0 ≤ Chunk.hexc d ∧ Chunk.hexc d ≤ 255 := by unfold Chunk.hexc; split <;> omega
theorem hex_byte : ∀ (n : Nat), Byte (Chunk.hex n) := fun n => by
  induction n using Nat.strongRecOn with
  | _ n ih =>
    by_cases h : n < 16
    · rw [Chunk.hex_one h]; intro x hx; rw [List.mem_singleton] at hx; subst hx; exact hexc_byte n h
    · rw [Chunk.hex_more h]
      intro x hx
      rcases List.mem_append.1 hx with hx | hx
      · exact ih (n / 16) (by omega) x hx
      · rw [List.mem_singleton] at hx; subst hx; exact hexc_byte _ (by omega)
theorem hex_len : ∀ (n : Nat), (Chunk.hex n).length ≤ n + 1 := fun n => by
  induction n using Nat.strongRecOn with
  | _ n ih =>
    by_cases h : n < 16
    · rw [Chunk.hex_one h]; simp
    · rw [Chunk.hex_more h]; have := ih (n / 16) (by omega); simp; omega
theorem hex_cut : ∀ k : Fin 16, hexS.extract k.val (k.val + 1) = bstr [Chunk.hexc k.val] := by decide
set_option maxHeartbeats 1600000 in
set_option maxRecDepth 100000 in
theorem hex_c : ∀ (n : Nat), n ≤ 1000000 → ∀ (w : World), Calls Try.prog 39 #[.int .i64 n] w (Rets (Still (.string (bstr (Chunk.hex n))) w)) := fun n => by
  induction n using Nat.strongRecOn with
  | _ n ih =>
    intro hn w
    by_cases h : n < 16
    · have HX := Lib.hid (Chunk.hex_one h)
      have HC := Lib.hid (hex_cut ⟨n, h⟩)
      clear ih
      go_enter Try.func39, Try.ntmps39
      go_wp2
      go_ret
      exact ⟨by rw [HX.out, ← HC.out]; rfl, Keeps.refl _ _⟩
    · have HX := Lib.hid (Chunk.hex_more h)
      obtain ⟨q, hq⟩ : ∃ q : Nat, q = n / 16 := ⟨_, rfl⟩
      obtain ⟨d, hd⟩ : ∃ d : Nat, d = n % 16 := ⟨_, rfl⟩
      have hd16 : d < 16 := by omega
      have HC := Lib.hid (hex_cut ⟨d, hd16⟩)
      have HI := Lib.hid (ih q (by omega) (by omega))
      have q1 : ((n : Int)).tdiv 16 = (q : Int) := by rw [Int.tdiv_eq_ediv_of_nonneg (by omega)]; omega
      have q2 : ((n : Int)) / 16 = (q : Int) := by omega
      have d1 : ((n : Int)).tmod 16 = (d : Int) := by rw [Int.tmod_eq_emod_of_nonneg (by omega)]; omega
      have d2 : ((n : Int)) % 16 = (d : Int) := by omega
      rw [← hq, ← hd] at HX
      have hsz : (bstr (Chunk.hex q)).size ≤ 1000001 := by rw [bstr_size]; have := hex_len q; omega
      clear ih hq hd
      go_enter Try.func39, Try.ntmps39
      go_wp2
      refine Canon.row [0, 1, 3, 4, 5, 6, 7, 8, 2, 9, 10] (by kernel_rfl) (by kernel_rfl) (by repeat (first | (with_reducible exact Safe.body) | (with_reducible apply Safe.then) | (with_reducible apply Safe.inBlock) | (dsimp +zetaDelta only))) ?_
      simp only [Canon.pick, Canon.wpPlan, List.getElem?_toArray, List.getElem?_cons_zero, List.getElem?_cons_succ]
      go_wp2_with (go_at_call 39; go_loud (refine Rets.use (HI.out w.drew) ?_); rintro v1 w1 ⟨rfl, hk1⟩)
      refine ⟨by rfl, trivial, ?_⟩
      go_wp2
      go_ret
      exact ⟨by rw [HX.out, ← bstr_app, ← HC.out]; rfl, ((Keeps.refl _ w).drew).trans hk1 (fun _ _ h => h)⟩
/-! ### what grows -/
/-- Bytes of the call's own; all that was there is as it was. -/
def Out (W w : World) (v : Value) (l : List Int) : Prop := OwnRow w (fun j => W.heap.size ≤ j) 5 1 v l.length (Disk.bytes8 l) ∧ Keeps (fun _ => False) W w
section
variable {P : Program} {ops : Array Oper} {op : Oper} {rest : List Oper} {a : Act} {W w : World} {Q : Exit → Act → World → Prop}
theorem Out.kept {w' : World} {v : Value} {l : List Int} (h : Out W w v l) (hk : Keeps (fun _ => False) w w') : Out W w' v l := ⟨h.1.kept hk (fun _ _ h => h), h.2.trans hk (fun _ _ h => h)⟩
theorem out_str (hgd : Region.wanted op (yielded ops a.tmps) = true) (s x : Operand) (ho : op.op = .call { callee := .builtin .append, args := #[s, x], argTypes := #[22, 9] })
    (v : Value) (l : List Int) (hs : a.eval s = v) (h : Out W w v l) (b : List Int) (hx : a.eval x = .string (bstr b)) (hB : Byte b) (hn : l.length + b.length ≤ 1000000000)
    (k : ∀ v' w', Out W w' v' (l ++ b) → Keeps (fun j => W.heap.size ≤ j) w w' → wpList Try.prog ops Q rest (a.put op.dst v') w') : wpList Try.prog ops Q (op :: rest) a w := by
  refine step_append_str hgd s x _ _ ho 5 Try.underlying22 Try.underlying9 row_byte v l.length _ hs h.1 (bstr b) hx (by rw [bstr_size]; simp only [maxLen]; omega) (by rw [bstr_size]; omega) (fun v' w' h1 h2 => k v' w' ⟨?_, h.2.trans h2 (fun j hj e => by have := h.1.2 j e; omega)⟩ (h2.mono (fun j _ e => h.1.2 j e)))
  rw [bstr_size, bstr_cells hB] at h1
  rw [List.length_append, Disk.bytes8_append]
  exact h1.mono (fun j _ e => e.elim (fun h => h) (fun e => Nat.le_trans h.2.size e))
theorem out_rd {ok : Nat → Prop} (hgd : Region.wanted op (yielded ops a.tmps) = true) (s x : Operand) (ho : op.op = .call { callee := .builtin .append, args := #[s, x], argTypes := #[22, 22] })
    (v : Value) (l : List Int) (hs : a.eval s = v) (h : Out W w v l) (xv : Value) (n : Nat) (b : List Int) (hx : a.eval x = xv) (hr : Rd w ok xv n (Disk.bytes8 b)) (hl : b.length = n) (hn : l.length + b.length ≤ 1000000000)
    (k : ∀ v' w', Out W w' v' (l ++ b) → Keeps (fun j => W.heap.size ≤ j) w w' → wpList Try.prog ops Q rest (a.put op.dst v') w') : wpList Try.prog ops Q (op :: rest) a w := by
  subst hl
  refine step_append_rd hgd s x _ ho 5 _ 1 1 Try.underlying22 row_byte rfl (by decide) v l.length _ hs h.1 xv b.length (Disk.bytes8 b) hx hr (by rw [Disk.bytes8_len, Nat.mul_one]) (Disk.bytes8_one b) (by simp only [maxLen]; omega) (by omega) (fun v' w' h1 h2 => k v' w' ⟨?_, h.2.trans h2 (fun j hj e => by have := h.1.2 j e; omega)⟩ (h2.mono (fun j _ e => h.1.2 j e)))
  rw [List.length_append, Disk.bytes8_append]
  exact h1.mono (fun j _ e => e.elim (fun h => h) (fun e => Nat.le_trans h.2.size e))
end
theorem take8 {w : World} {ok : Nat → Prop} {A : Option Addr} {c : Nat} {l : List Int} (h : Rd w ok (.slice A l.length c) l.length (Disk.bytes8 l)) {n : Nat} (hn : n ≤ l.length) : Rd w ok (.slice A n c) n (Disk.bytes8 (l.take n)) := by
  have := Rd.front h n 1 hn (by rw [Disk.bytes8_len, Nat.mul_one])
  rw [Nat.mul_one] at this
  unfold Disk.bytes8 at *
  rw [List.map_take]; exact this
theorem crlf_byte : Byte [13, 10] := by intro x hx; simp at hx; omega
theorem end_byte : Byte [48, 13, 10, 13, 10] := by intro x hx; simp at hx; omega
theorem Rd.nilx {w : World} {ok : Nat → Prop} {A : Option Addr} {c : Nat} (h : Rd w ok (.slice A 0 c) ([] : List Int).length (Disk.bytes8 [])) : ∀ w' ok', Rd w' ok' (.slice A 0 c) ([] : List Int).length (Disk.bytes8 []) := by
  obtain ⟨A', c', e, h2, h3, _⟩ := h
  cases e
  exact fun w' ok' => ⟨_, _, rfl, h2, h3, .inl rfl⟩
/-! ### Print -/
def printed (b : List Int) (size : Int) : List Int × Int := if size < 1 ∨ 2048 < size then ([], 2) else if 2048 < b.length then ([], 5) else (Chunk.pr size.toNat b, 0)
def TwoIs (w : World) (t : List Int × Int) : Value → World → Prop := fun v w' => ∃ u, v = .tuple #[u, .int .i64 t.2] ∧ Out w w' u t.1
theorem hex_len3 {n : Nat} (h : n < 4096) : (Chunk.hex n).length ≤ 3 := by
  by_cases h1 : n < 16
  · rw [Chunk.hex_one h1]; simp
  · rw [Chunk.hex_more h1, List.length_append]
    by_cases h2 : n / 16 < 16
    · rw [Chunk.hex_one h2]; simp
    · rw [Chunk.hex_more h2, List.length_append, Chunk.hex_one (by omega)]; simp
theorem pr_len (size : Nat) : ∀ (k : Nat) (b : List Int), b.length ≤ k → k ≤ 2048 → (Chunk.pr size b).length ≤ 5 + 8 * b.length
  | 0, b, h, _ => by
    obtain rfl := List.eq_nil_of_length_eq_zero (Nat.le_zero.1 h)
    rw [Chunk.pr_nil]; simp
  | k + 1, b, h, hk => by
    by_cases hs : 0 < size
    · by_cases hb : 0 < b.length
      · rw [Chunk.pr_cons hs hb]
        obtain ⟨n, hn⟩ : ∃ n, n = min size b.length := ⟨_, rfl⟩
        rw [← hn]
        have hdl : (b.drop n).length = b.length - n := List.length_drop ..
        have := pr_len size k (b.drop n) (by omega) (by omega)
        have h3 := hex_len3 (n := n) (by omega)
        have ht : (b.take n).length = n := by rw [List.length_take]; omega
        simp only [List.length_append, List.length_cons, List.length_nil, ht]
        omega
      · obtain rfl := List.eq_nil_of_length_eq_zero (show b.length = 0 by omega)
        rw [Chunk.pr_nil]; simp
    · rw [Chunk.pr, dif_pos (.inl (by omega))]; simp
set_option maxHeartbeats 3200000 in
set_option maxRecDepth 100000 in
theorem print12_c {ok : Nat → Prop} {w : World} (v : Value) (l : List Int) (size : Int) (hr : Rd w ok v l.length (Disk.bytes8 l)) (hok : ∀ j, ok j → j < w.heap.size) : Calls Try.prog 23 #[v, .int .i64 size] w (Rets (TwoIs w (printed l size))) := by
  have hN : Out w w (.slice none 0 0) [] := ⟨OwnRow.nil _ _ _ _, Keeps.refl _ _⟩
  obtain ⟨A, c, rfl, hc, hz⟩ := hr.slice
  by_cases hs : size < 1
  · have HP := Lib.hid (show printed l size = ([], 2) by unfold printed; rw [if_pos (.inl hs)])
    clear hr hz
    go_enter Try.func23, Try.ntmps23
    go_wp2
    go_ret2
    rw [HP.out]
    exact ⟨_, rfl, hN⟩
  · by_cases hs2 : 2048 < size
    · have HP := Lib.hid (show printed l size = ([], 2) by unfold printed; rw [if_pos (.inr hs2)])
      clear hr hz
      go_enter Try.func23, Try.ntmps23
      go_wp2
      go_ret2
      rw [HP.out]
      exact ⟨_, rfl, hN⟩
    · by_cases hl : 2048 < l.length
      · have HP := Lib.hid (show printed l size = ([], 5) by unfold printed; rw [if_neg (by omega), if_pos (by omega)])
        clear hr hz
        go_enter Try.func23, Try.ntmps23
        go_wp2
        go_ret2
        rw [HP.out]
        exact ⟨_, rfl, hN⟩
      · obtain ⟨sz, rfl⟩ : ∃ q : Nat, size = q := ⟨size.toNat, by omega⟩
        have HP := Lib.hid (show printed l sz = (Chunk.pr sz l, 0) by unfold printed; rw [if_neg (by omega), if_neg (by omega)]; simp)
        have HR := Lib.hid hr
        have HN := Lib.hid hN
        have hs0 : 0 < sz := by omega
        clear hr hz hN
        go_enter Try.func23, Try.ntmps23
        go_wp2
        go_loopw [0, 6] (fun bv ov wr => ∃ (d out : List Int) (A : Option Addr) (c : Nat), bv = .slice A d.length c ∧ Rd w ok bv d.length (Disk.bytes8 d) ∧ d.length ≤ 2048 ∧ Out w wr ov out ∧ out.length ≤ 2060 * (2048 - d.length) ∧ Hid (out ++ Chunk.pr sz d = Chunk.pr sz l)) (fun bv _ _ => match bv with | .slice _ n _ => n | _ => 0)
        case atStart => exact ⟨l, [], A, c, rfl, HR.out, by omega, HN.out, Nat.zero_le _, Lib.hid rfl⟩
        case round =>
          obtain ⟨d, out, A, c, rfl, hRd, hd, hO, ho, HE⟩ := hrel
          by_cases hlt : 0 < d.length
          · obtain ⟨n, hn⟩ : ∃ n, n = min sz d.length := ⟨_, rfl⟩
            have hn0 : 0 < n := by omega
            have hn1 : n ≤ d.length := by omega
            have hn2 : n ≤ sz := by omega
            have hn3 : sz ≤ n ∨ d.length ≤ n := by omega
            have HE := Lib.hid (show (((out ++ Chunk.hex n) ++ [13, 10]) ++ d.take n) ++ [13, 10] ++ Chunk.pr sz (d.drop n) = Chunk.pr sz l by
              have := HE.out
              rw [Chunk.pr_cons hs0 hlt, ← hn] at this
              simpa using this)
            have HH := Lib.hid (hex_c n (by omega))
            have HB := Lib.hid (hex_byte n)
            have hx := hex_len n
            have HT := Lib.hid (take8 hRd hn1)
            have htl : (d.take n).length = n := by rw [List.length_take]; omega
            have hdl : (d.drop n).length = d.length - n := List.length_drop ..
            have HRd := Lib.hid hRd
            have HO := Lib.hid hO
            have HDl := Lib.hid hdl
            have HTl := Lib.hid htl
            have hsz := hO.2.size
            have hdc : d.length ≤ c := by obtain ⟨A', c', e, h2, _⟩ := hRd; cases e; exact h2
            generalize Chunk.hex n = hx0 at *
            clear hRd hO hn htl hdl
            by_cases hlt2 : n < d.length
            · obtain ⟨b, o, c', e, _, _, _⟩ := HRd.out.at (by intro e; have := congrArg List.length e; rw [Disk.bytes8_len, List.length_nil] at this; omega)
              cases e
              have HT2 := Lib.hid (tail_at HRd.out hlt2)
              obtain rfl : n = sz := by omega
              clear hn2 hn3
              go_wp2_with (first
                | ((with_reducible refine at_ 34 rfl ?_); go_must (refine out_str rfl _ _ rfl _ _ rfl hO5 [13, 10] rfl crlf_byte (by simp only [List.length_append, List.length_cons, List.length_nil, HTl.out]; omega) ?_); intro v6 w6 hO6 hk6; have hk6 : Keeps (fun j => w.heap.size ≤ j) wr w6 := hk5.trans hk6 (fun _ _ h => h))
                | ((with_reducible refine at_ 33 rfl ?_); go_must (refine out_rd rfl _ _ rfl _ _ rfl hO4 _ _ _ rfl (HT.out.kept hO4.2 (fun _ _ h => h)) HTl.out (by simp only [List.length_append, List.length_cons, List.length_nil, HTl.out]; omega) ?_); intro v5 w5 hO5 hk5; have hk5 : Keeps (fun j => w.heap.size ≤ j) wr w5 := hk4.trans hk5 (fun _ _ h => h))
                | ((with_reducible refine at_ 28 rfl ?_); go_must (refine out_str rfl _ _ rfl _ _ rfl hO3 [13, 10] rfl crlf_byte (by simp only [List.length_append, List.length_cons, List.length_nil]; omega) ?_); intro v4 w4 hO4 hk4; have hk4 : Keeps (fun j => w.heap.size ≤ j) wr w4 := hk3.trans hk4 (fun _ _ h => h))
                | ((with_reducible refine at_ 27 rfl ?_); go_must (refine out_str rfl _ _ rfl _ out rfl (HO.out.kept hk2) hx0 rfl HB.out (by omega) ?_); intro v3 w3 hO3 hk3; have hk3 : Keeps (fun j => w.heap.size ≤ j) wr w3 := (hk2.mono (fun _ _ h => h.elim)).trans hk3 (fun _ _ h => h))
                | (go_at_call 39; go_loud (refine Rets.use (HH.out wr) ?_); rintro v2 w2 ⟨rfl, hk2⟩))
              go_roundw
              case rel =>
                refine ⟨d.drop n, _, _, _, by rw [HDl.out], ?_, by rw [HDl.out]; omega, hO6, ?_, HE⟩
                · exact HT2.out
                · simp only [List.length_append, List.length_cons, List.length_nil, HTl.out, HDl.out]; omega
              case measure => simp [intOf]; omega
            · obtain rfl : n = d.length := by omega
              clear hn3 hlt2
              have HE := Lib.hid (show (((out ++ hx0) ++ [13, 10]) ++ d.take d.length) ++ [13, 10] ++ Chunk.pr sz [] = Chunk.pr sz l by rw [← HE.out, List.drop_length])
              have HT2 := Lib.hid (Rd.nilx (tail_end HRd.out))
              by_cases hsd : d.length < sz
              · go_wp2_with (first
                  | ((with_reducible refine at_ 34 rfl ?_); go_must (refine out_str rfl _ _ rfl _ _ rfl hO5 [13, 10] rfl crlf_byte (by simp only [List.length_append, List.length_cons, List.length_nil, HTl.out]; omega) ?_); intro v6 w6 hO6 hk6; have hk6 : Keeps (fun j => w.heap.size ≤ j) wr w6 := hk5.trans hk6 (fun _ _ h => h))
                  | ((with_reducible refine at_ 33 rfl ?_); go_must (refine out_rd rfl _ _ rfl _ _ rfl hO4 _ _ _ rfl (HT.out.kept hO4.2 (fun _ _ h => h)) HTl.out (by simp only [List.length_append, List.length_cons, List.length_nil, HTl.out]; omega) ?_); intro v5 w5 hO5 hk5; have hk5 : Keeps (fun j => w.heap.size ≤ j) wr w5 := hk4.trans hk5 (fun _ _ h => h))
                  | ((with_reducible refine at_ 28 rfl ?_); go_must (refine out_str rfl _ _ rfl _ _ rfl hO3 [13, 10] rfl crlf_byte (by simp only [List.length_append, List.length_cons, List.length_nil]; omega) ?_); intro v4 w4 hO4 hk4; have hk4 : Keeps (fun j => w.heap.size ≤ j) wr w4 := hk3.trans hk4 (fun _ _ h => h))
                  | ((with_reducible refine at_ 27 rfl ?_); go_must (refine out_str rfl _ _ rfl _ out rfl (HO.out.kept hk2) hx0 rfl HB.out (by omega) ?_); intro v3 w3 hO3 hk3; have hk3 : Keeps (fun j => w.heap.size ≤ j) wr w3 := (hk2.mono (fun _ _ h => h.elim)).trans hk3 (fun _ _ h => h))
                  | (go_at_call 39; go_loud (refine Rets.use (HH.out wr) ?_); rintro v2 w2 ⟨rfl, hk2⟩))
                all_goals
                  go_roundw
                  case rel =>
                    refine ⟨[], _, _, _, rfl, ?_, by simp, hO6, ?_, HE⟩
                    · exact HT2.out _ _
                    · simp only [List.length_append, List.length_cons, List.length_nil, HTl.out]; omega
                  case measure => simp [intOf]; omega
              · obtain rfl : sz = d.length := by omega
                go_wp2_with (first
                  | ((with_reducible refine at_ 34 rfl ?_); go_must (refine out_str rfl _ _ rfl _ _ rfl hO5 [13, 10] rfl crlf_byte (by simp only [List.length_append, List.length_cons, List.length_nil, HTl.out]; omega) ?_); intro v6 w6 hO6 hk6; have hk6 : Keeps (fun j => w.heap.size ≤ j) wr w6 := hk5.trans hk6 (fun _ _ h => h))
                  | ((with_reducible refine at_ 33 rfl ?_); go_must (refine out_rd rfl _ _ rfl _ _ rfl hO4 _ _ _ rfl (HT.out.kept hO4.2 (fun _ _ h => h)) HTl.out (by simp only [List.length_append, List.length_cons, List.length_nil, HTl.out]; omega) ?_); intro v5 w5 hO5 hk5; have hk5 : Keeps (fun j => w.heap.size ≤ j) wr w5 := hk4.trans hk5 (fun _ _ h => h))
                  | ((with_reducible refine at_ 28 rfl ?_); go_must (refine out_str rfl _ _ rfl _ _ rfl hO3 [13, 10] rfl crlf_byte (by simp only [List.length_append, List.length_cons, List.length_nil]; omega) ?_); intro v4 w4 hO4 hk4; have hk4 : Keeps (fun j => w.heap.size ≤ j) wr w4 := hk3.trans hk4 (fun _ _ h => h))
                  | ((with_reducible refine at_ 27 rfl ?_); go_must (refine out_str rfl _ _ rfl _ out rfl (HO.out.kept hk2) hx0 rfl HB.out (by omega) ?_); intro v3 w3 hO3 hk3; have hk3 : Keeps (fun j => w.heap.size ≤ j) wr w3 := (hk2.mono (fun _ _ h => h.elim)).trans hk3 (fun _ _ h => h))
                  | (go_at_call 39; go_loud (refine Rets.use (HH.out wr) ?_); rintro v2 w2 ⟨rfl, hk2⟩))
                all_goals
                  go_roundw
                  case rel =>
                    refine ⟨[], _, _, _, rfl, ?_, by simp, hO6, ?_, HE⟩
                    · exact HT2.out _ _
                    · simp only [List.length_append, List.length_cons, List.length_nil, HTl.out]; omega
                  case measure => simp [intOf]; omega
          · have hd0 : d.length = 0 := by omega
            obtain rfl := List.eq_nil_of_length_eq_zero hd0
            have HO := Lib.hid hO
            have HE := Lib.hid (show out ++ [48, 13, 10, 13, 10] = Chunk.pr sz l by rw [← HE.out, Chunk.pr_nil])
            clear hO hRd hlt hd0
            go_wp2_with ((with_reducible refine at_ 39 rfl ?_); go_must (refine out_str rfl _ _ rfl _ out rfl HO.out [48, 13, 10, 13, 10] rfl end_byte (by simp at ho ⊢; omega) ?_); intro v7 w7 hO7 hk7)
            go_ret2
            rw [HP.out]
            rw [HE.out] at hO7
            exact ⟨_, rfl, hO7⟩
end Go.Proofs.Ytomnkdjlljobeaa
