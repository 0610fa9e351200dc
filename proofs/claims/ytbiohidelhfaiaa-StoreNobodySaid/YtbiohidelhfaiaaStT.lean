/-
  The walk of Decode.
-/
import Derived.Test.YtbiohidelhfaiaaStS
import Derived.Test.YtbiohidelhfaiaaStQ
import Derived.Test.YtbiohidelhfaiaaChgO
namespace Go.Proofs.Ytbiohidelhfaiaa
open Go.RowKit Go.Canon Go.Mem
open Go.Proofs.Ytbiohidelhfaiaa.Sto (Chg)
set_option linter.unusedVariables false
set_option linter.unusedSimpArgs false
theorem change_sub {b r : List Int} {c : Chg} (hB : IsB b) (h : Sto.change b = some (c, r)) : IsB c.key ∧ IsB c.val ∧ c.key.length ≤ b.length ∧ c.val.length ≤ b.length ∧ IsB r ∧ r.length ≤ b.length := by
  unfold Sto.change at h
  cases b with
  | nil => cases h
  | cons t s =>
    simp only at h
    split at h
    · cases h
    · have hs : IsB s := fun x hx => hB x (List.mem_cons_of_mem _ hx)
      cases hp : Sto.piece s with
      | none => rw [hp] at h; cases h
      | some q =>
        obtain ⟨k, r2⟩ := q
        rw [hp] at h
        simp only at h
        obtain ⟨h1, h2, h3, h4⟩ := piece_sub hs hp
        rw [List.length_cons]
        split at h
        · simp only [Option.some.injEq, Prod.mk.injEq] at h
          obtain ⟨rfl, rfl⟩ := h
          exact ⟨h1, fun x hx => by simp at hx, by simp only; omega, by simp, h2, by omega⟩
        · cases hp2 : Sto.piece r2 with
          | none => rw [hp2] at h; cases h
          | some q =>
            obtain ⟨v, r3⟩ := q
            rw [hp2] at h
            simp only [Option.some.injEq, Prod.mk.injEq] at h
            obtain ⟨rfl, rfl⟩ := h
            obtain ⟨h5, h6, h7, h8⟩ := piece_sub h2 hp2
            exact ⟨h1, h5, by simp only; omega, by simp only; omega, h6, by omega⟩
def decEnd (m : Option (List Chg × List Int)) : List Chg × Int := match m with
  | none => ([], 4)
  | some (l, r) => if r ≠ [] ∨ Sto.chk l ≠ 0 then ([], 4) else (l, 0)
def decMore (x : Nat) (m : Option (Chg × List Int)) : Option (List Chg × List Int) := match m with
  | none => none
  | some (c, r) => match Sto.changes x r with
    | none => none
    | some (l, r2) => some (c :: l, r2)
def decPre (lk : List Chg) (m : Option (List Chg × List Int)) : Option (List Chg × List Int) := match m with
  | none => none
  | some (l, r) => some (lk ++ l, r)
theorem dec_eq (b : List Int) : Sto.dec b = if (Sto.rdF b).2.2 ≠ 0 ∨ 16 < (Sto.rdF b).1 then ([], 4) else decEnd (Sto.changes (Sto.rdF b).1 (b.drop (Sto.rdF b).2.1)) := by
  unfold Sto.dec decEnd
  rfl
theorem changes_eq (n : Nat) (b : List Int) : Sto.changes (n + 1) b = decMore n (Sto.change b) := by
  unfold decMore
  rw [Sto.changes]
  rfl
theorem decPre_more (lk : List Chg) (x : Nat) (c : Chg) (r : List Int) : decPre lk (decMore x (some (c, r))) = decPre (lk ++ [c]) (Sto.changes x r) := by
  unfold decPre decMore
  simp only
  cases Sto.changes x r with
  | none => rfl
  | some q => obtain ⟨l, r2⟩ := q; simp
theorem ChgOwn.blk {w : World} {ok : Nat → Prop} {v : Value} {l : List Chg} (h : ChgOwn w ok v l) : ∀ k, v.ownBlock = some k → ok k := by
  obtain ⟨vs, h1, h2, h3, h4⟩ := h
  exact h2.2
/-- Changes that were read, an error. -/
def DecIs (w : World) (p : List Chg × Int) : Value → World → Prop := fun v w' => Keeps (fun _ => False) w w' ∧ ∃ u, v = .tuple #[u, .int .i64 p.2] ∧ ChgOwn w' (fun j => w.heap.size ≤ j) u p.1
theorem decIs_no (w w' : World) (hk : Keeps (fun _ => False) w w') : DecIs w ([], 4) (.tuple #[.slice none 0 0, .int .i64 4]) w' := ⟨hk, _, rfl, ChgOwn.nil _ _⟩
theorem row2_chg : (Try.prog.info? 41).map (fun i => (i.zero, i.size)) = some (some (.agg #[.string ⟨#[]⟩, .bool false, .slice none 0 0]), 3) := by kernel_rfl
theorem cells_one {v : Value} (h : v.oneCell' = true) : v.cells = #[v] := by cases v <;> first | rfl | (simp [Value.oneCell'] at h)
theorem chgC_list (d : Chg) (u : Value) (h : u.oneCell' = true) : (Value.agg (chgC d u).toArray).cells = (chgC d u).toArray := by
  simp [Value.cells, chgC, cells_one h]
theorem chgC_cells (d : Chg) (u : Value) (h : u.oneCell' = true) : (Value.agg (chgC d u).toArray).cells.size = 3 := by
  rw [chgC_list d u h]; rfl
theorem chgC_flat (d : Chg) (u : Value) (h : u.oneCell' = true) : ([Value.agg (chgC d u).toArray].flatMap fun v => v.cells.toList).toArray = (chgC d u).toArray := by
  rw [List.flatMap_cons, List.flatMap_nil, List.append_nil, chgC_list d u h]
set_option maxHeartbeats 6400000 in
set_option maxRecDepth 100000 in
theorem decode_c {ok : Nat → Prop} {w : World} (v : Value) (b : List Int) (hr : Rd w ok v b.length (Disk.bytes8 b)) (hB : IsB b) (hl : b.length ≤ 1000000) (hok : ∀ j, ok j → j < w.heap.size) : Calls Try.prog 14 #[v] w (Rets (DecIs w (Sto.dec b))) := by
  obtain ⟨A, c, rfl, _⟩ := hr.slice
  have HR := Lib.hid hr
  have HB := Lib.hid hB
  have HV := Lib.hid (rdvar_c _ b hr hB hl)
  have HD := Lib.hid (dec_eq b)
  have hle := rd_le b
  have hx := rdF_lt b hB
  clear hr hB
  generalize Sto.rdF b = q at *
  obtain ⟨x, n, e⟩ := q
  simp only at HD HV hle hx
  by_cases he : e = 0
  · subst he
    obtain ⟨hn1, hn2⟩ := hle rfl
    clear hle
    by_cases h16 : 16 < x
    · have HE := Lib.hid (show Sto.dec b = ([], 4) by rw [HD.out, if_pos (.inr h16)])
      go_enter Try.func14, Try.ntmps14
      go_wp2_with (go_at_call 43; refine Rets.use HV.out ?_; rintro _ _ ⟨rfl, rfl⟩)
      go_ret2
      rw [HE.out]
      exact decIs_no _ _ (Keeps.refl _ _)
    · have HD2 := Lib.hid (show Sto.dec b = decEnd (Sto.changes x (b.drop n)) by rw [HD.out, if_neg (by rintro (h | h); exact h rfl; exact h16 h)])
      have hx16 : x ≤ 16 := by omega
      have HB0 := Lib.hid (show IsB (b.drop n) from fun y hy => HB.out y (List.drop_subset _ _ hy))
      have hbl : (b.drop n).length ≤ 1000000 := by rw [List.length_drop]; omega
      have hnl : b.length - n = (b.drop n).length := by rw [List.length_drop]
      go_enter Try.func14, Try.ntmps14
      go_wp2_with (first
        | (go_at_call 43; refine Rets.use HV.out ?_; rintro _ _ ⟨rfl, rfl⟩)
        | ((with_reducible refine at_ 25 rfl ?_); go_loud (refine step_slice_from rfl _ _ _ rfl 5 under_elem info_elem A b.length c n .i64 _ rfl rfl hn2 HR.out (Disk.bytes8_len b) ?_); intro v3 hr3))
      rw [drop8, hnl] at hr3
      generalize b.drop n = b0 at *
      have HR3 := Lib.hid hr3
      clear hr3
      go_loopw [0, 7, 27] (fun bv lv iv wr => ∃ (k : Nat) (rb : List Int) (lk : List Chg), k ≤ x ∧ iv = .int .u64 k ∧ Keeps (fun _ => False) w wr ∧ Rd wr ok bv rb.length (Disk.bytes8 rb) ∧ Hid (IsB rb ∧ ChgB lk) ∧ rb.length ≤ 1000000 ∧ lk.length = k ∧ ChgOwn wr (fun j => w.heap.size ≤ j) lv lk ∧ Hid (Sto.changes x b0 = decPre lk (Sto.changes (x - k) rb))) (fun _ _ iv _ => x - (intOf iv).toNat)
      case atStart => exact ⟨0, b0, [], Nat.zero_le _, rfl, Keeps.refl _ _, HR3.out, Lib.hid ⟨HB0.out, fun c hc => by cases hc⟩, hbl, rfl, ChgOwn.nil _ _, Lib.hid (by rw [Nat.sub_zero]; unfold decPre; cases Sto.changes x b0 <;> rfl)⟩
      case round =>
        obtain ⟨k, rb, lk, hk, rfl, hkr, hrb, HBB, hrl, hlk, hO, HC⟩ := hrel
        subst hlk
        have HKr := Lib.hid hkr
        have HRb := Lib.hid hrb
        have HO := Lib.hid hO
        have hwr := hkr.size
        obtain ⟨Al, cl, rfl, _⟩ := hO.slice
        obtain ⟨Ab, cb, rfl, _⟩ := hrb.slice
        by_cases hlt : lk.length < x
        · have HCh := Lib.hid (change_c _ rb hrb HBB.out.1 hrl (fun j hj => by have := hok j hj; omega))
          have HC2 := Lib.hid (show Sto.changes x b0 = decPre lk (decMore (x - (lk.length + 1)) (Sto.change rb)) by rw [HC.out, show x - lk.length = x - (lk.length + 1) + 1 by omega, changes_eq])
          clear hkr hrb hO HC
          cases hch : Sto.change rb with
          | none =>
            rw [hch] at HCh HC2
            have HE := Lib.hid (show Sto.dec b = ([], 4) by rw [HD2.out, HC2.out]; rfl)
            clear HC2
            go_wp2_with (first
              | (go_at_call 44; refine Rets.use HCh.out ?_; rintro _ w4 ⟨hk4, ch, vV, a4, rfl, hone⟩)
              | ((with_reducible refine at_ 8 rfl ?_); go_must (refine step_alloc rfl _ rfl _ chgZ row_chg rfl ?_); intro w5 hb5 hk5 hs5)
              | ((with_reducible refine at_store 41 (.tmp 8) (.tmp 32) rfl ?_); go_must (refine step_store rfl _ _ _ rfl w4.heap.size 0 (chgC ch vV) _ _ rfl rfl hb5 (by simp [chgZ, chgC]) (info_chgC ch vV) (by simp [Value.oneCell', chgC]; exact hone) ?_); intro w6 hb6 hk6 hs6))
            go_ret2
            rw [HE.out]
            exact decIs_no _ _ (((HKr.out.trans hk4 (fun _ _ h => h)).trans hk5 (fun _ _ h => h)).mono (S' := fun j => w.heap.size ≤ j) (fun _ _ h => h.elim) |>.trans hk6 (fun j _ h => by have := hk4.size; omega) |>.mono (fun j hj h => by omega))
          | some q =>
            obtain ⟨d, r2⟩ := q
            obtain ⟨hs1, hs2, hs3, hs4, hs5, hs6⟩ := change_sub HBB.out.1 hch
            rw [hch] at HCh HC2
            have HC3 := Lib.hid (show Sto.changes x b0 = decPre (lk ++ [d]) (Sto.changes (x - (lk.length + 1)) r2) by rw [HC2.out, decPre_more])
            have HBB2 := Lib.hid (show IsB r2 ∧ ChgB (lk ++ [d]) from ⟨hs5, fun c hc => by
              rcases List.mem_append.1 hc with hc | hc
              · exact HBB.out.2 c hc
              · rw [List.mem_singleton] at hc; subst hc; exact ⟨hs1, hs2, by omega, by omega⟩⟩)
            clear HC2 hch hs1 hs2 hs5
            go_wp2_with (first
              | (go_at_call 44; refine Rets.use HCh.out ?_; rintro _ w4 ⟨hk4, vV, a4, rfl, hOv, hra⟩; have hone := Rd.one hOv.rd; have hz4 := hk4.size)
              | ((with_reducible refine at_ 8 rfl ?_); go_must (refine step_alloc rfl _ rfl _ chgZ row_chg rfl ?_); intro w5 hb5 hk5 hs5)
              | ((with_reducible refine at_store 41 (.tmp 8) (.tmp 32) rfl ?_); go_must (refine step_store rfl _ _ _ rfl w4.heap.size 0 (chgC d vV) _ _ rfl rfl hb5 (by simp [chgZ, chgC]) (info_chgC d vV) (by simp [Value.oneCell', chgC]; exact hone) ?_); intro w6 hb6 hk6 hs6; rw [put_whole (by rfl)] at hb6; have HK6 := Lib.hid (((HKr.out.trans hk4 (fun _ _ h => h)).trans hk5 (fun _ _ h => h)).mono (S' := fun j => w.heap.size ≤ j) (fun _ _ h => h.elim) |>.trans hk6 (fun j _ h => by omega) |>.mono (S' := fun _ => False) (fun j hj h => by omega)); have HO6 := Lib.hid ((((HO.out.mono (ok' := fun j => w.heap.size ≤ j ∧ j < wr.heap.size) (fun j hj h => ⟨h, hj⟩)).kept hk4 (fun _ _ h => h)).kept hk5 (fun _ _ h => h)).kept hk6 (fun j h e => by omega)); have HV6 := Lib.hid ((((hOv.mono (ok' := fun j => wr.heap.size ≤ j ∧ j < w4.heap.size) (fun j hj h => ⟨h, hj⟩)).kept hk5 (fun _ _ h => h)).kept hk6 (fun j h e => by omega))); have HA6 := Lib.hid (((hra.kept hk5 (fun _ _ h => h))).kept hk6 (fun j h e => by have := hok j h; omega)))
              | ((with_reducible refine at_ 38 rfl ?_); go_must (refine step_load rfl _ _ rfl w4.heap.size 0 (chgC d vV) _ _ _ _ rfl hb6 rfl Try.underlying41 rfl (info_chgC d vV) ?_))
              | ((with_reducible refine at_ 39 rfl ?_); go_must (refine step_lit rfl 22 _ 1 rfl [.agg (chgC d vV).toArray] rfl rfl (by decide) 41 _ 3 Try.underlying22 row2_chg (by decide) (by decide) (by intro v hv; rw [List.mem_singleton] at hv; subst hv; exact chgC_cells d vV hone) ?_); intro w7 hb7 hk7 hs7)
              | ((with_reducible refine at_ 40 rfl ?_); go_must (refine step_push (ok := fun j => w.heap.size ≤ j) rfl _ _ rfl (.slice Al lk.length cl) lk rfl ((HO6.out.mono (fun j _ h => h.1)).kept hk7 (fun _ _ h => h)) d vV w6.heap.size rfl (by rw [hb7]; exact congrArg _ (congrArg (fun z => Obj.cells z _ _) (chgC_flat d vV hone))) ((HV6.out.mono (fun j _ h => Nat.le_trans hwr h.1)).kept hk7 (fun _ _ h => h)) (fun j h e => by have h1 := (HO6.out.blk j h).2; have h2 := (HV6.out.2 j e).1; omega) (by omega) ?_); intro v8 w8 hO8 hk8; have HK8 := Lib.hid ((HK6.out.trans hk7 (fun _ _ h => h)).mono (S' := fun j => w.heap.size ≤ j) (fun _ _ h => h.elim) |>.trans hk8 (fun j _ h => (HO6.out.blk j h).1) |>.mono (S' := fun _ => False) (fun j hj h => by omega))))
            go_roundw
            case rel => exact ⟨lk.length + 1, r2, lk ++ [d], hlt, by go_num, HK8.out, (HA6.out.kept hk7 (fun _ _ h => h)).kept hk8 (fun j h e => by have h1 := (HO6.out.blk j e).1; have := hok j h; omega), HBB2, by omega, by rw [List.length_append]; rfl, hO8.mono (fun j _ h => h.elim (fun h => h) (fun h => by have := hk7.size; omega)), HC3⟩
            case measure => simp [intOf]; omega
        · obtain rfl : lk.length = x := by omega
          have HE1 := Lib.hid (show Sto.dec b = if rb ≠ [] ∨ Sto.chk lk ≠ 0 then ([], 4) else (lk, 0) by
            rw [HD2.out, HC.out, Nat.sub_self]
            show decEnd (some (lk ++ [], rb)) = _
            rw [List.append_nil]; rfl)
          clear hkr hrb hO HC
          by_cases hrb0 : rb = []
          · subst hrb0
            have HCk := Lib.hid (fun (w' : World) (h : Chgs w' (fun j => w.heap.size ≤ j ∧ j < w'.heap.size) (.slice Al lk.length cl) lk) => check_c lk HBB.out.2 (by omega) _ h (fun j h => h.2))
            have HCs := Lib.hid ((HO.out.mono (ok' := fun j => w.heap.size ≤ j ∧ j < wr.heap.size) (fun j hj h => ⟨h, hj⟩)).chgs)
            by_cases hc0 : Sto.chk lk = 0
            · have HE := Lib.hid (show Sto.dec b = (lk, 0) by rw [HE1.out, if_neg (by rintro (h | h); exact h rfl; exact h hc0)])
              rw [hc0] at HCk
              go_wp2_with (go_at_call 18; refine Rets.use (HCk.out _ HCs.out) ?_; rintro _ w2 ⟨rfl, hk2⟩)
              go_ret2
              rw [HE.out]
              exact ⟨HKr.out.trans hk2 (fun _ _ h => h), _, rfl, HO.out.kept hk2 (fun _ _ h => h)⟩
            · have HE := Lib.hid (show Sto.dec b = ([], 4) by rw [HE1.out, if_pos (.inr hc0)])
              have hq : (Sto.chk lk != 0) = true := by simpa using hc0
              generalize Sto.chk lk = e at *
              go_wp2_with (go_at_call 18; refine Rets.use (HCk.out _ HCs.out) ?_; rintro _ w2 ⟨rfl, hk2⟩)
              go_ret2
              rw [HE.out]
              exact decIs_no _ _ (HKr.out.trans hk2 (fun _ _ h => h))
          · have HE := Lib.hid (show Sto.dec b = ([], 4) by rw [HE1.out, if_pos (.inl hrb0)])
            have hpos : 0 < rb.length := List.length_pos_iff.2 hrb0
            go_wp2
            go_ret2
            rw [HE.out]
            exact decIs_no _ _ HKr.out
  · have HE := Lib.hid (show Sto.dec b = ([], 4) by rw [HD.out, if_pos (.inl he)])
    have hq : (e != 0) = true := by simpa using he
    go_enter Try.func14, Try.ntmps14
    go_wp2_with (go_at_call 43; refine Rets.use HV.out ?_; rintro _ _ ⟨rfl, rfl⟩)
    go_ret2
    rw [HE.out]
    exact decIs_no _ _ (Keeps.refl _ _)
end Go.Proofs.Ytbiohidelhfaiaa
