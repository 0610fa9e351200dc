/-
  Several texts in one:
  The walk of Decode.
  store.Open.
  A new disk, a new log: plainly.
  A store lives.
  Bytes out of a text, in a block of their own that bears a mark behind its end: they are read and set.
  The walks of the document's Check, Encode, Alike.
  The walk of the document's ReadVar.
  The walks of the document's Encode and of its reader.
  The walk of the document's Decode.
-/
import Derived.Lib.SlBytesConst
import Derived.Test.YtbiohidelhfaiaaStoreTextsP0
import Derived.Test.YtbiohidelhfaiaaStoreTextsP1
import Derived.Test.YtbiohidelhfaiaaStoreTextsP2
import Derived.Test.YtbiohidelhfaiaaStoreTextsP3
import Derived.Test.YtbiohidelhfaiaaStoreTextsP4
section
namespace Go.Proofs.Ytbiohidelhfaiaa
open Go.RowKit Go.Canon Go.Mem
open Go.Proofs.Ytbiohidelhfaiaa.Sto (Chg)
set_option linter.unusedVariables false
set_option linter.unusedSimpArgs false
theorem change_sub {b r : List Int} {c : Chg} (hB : IsB b) (h : Sto.change b = some (c, r)) : IsB c.key ∧ IsB c.val ∧ c.key.length ≤ b.length ∧ c.val.length ≤ b.length ∧ IsB r ∧ r.length ≤ b.length := by
  unfold Sto.change at h
  cases b with
  | nil => cases h
  | cons t s =>
    simp only at h
    split at h
    · cases h
    · have hs : IsB s := fun x hx => hB x (List.mem_cons_of_mem _ hx)
      cases hp : Sto.piece s with
      | none => rw [hp] at h; cases h
      | some q =>
        obtain ⟨k, r2⟩ := q
        rw [hp] at h
        simp only at h
        obtain ⟨h1, h2, h3, h4⟩ := piece_sub hs hp
        rw [List.length_cons]
        split at h
        · simp only [Option.some.injEq, Prod.mk.injEq] at h
          obtain ⟨rfl, rfl⟩ := h
          exact ⟨h1, fun x hx => by simp at hx, by simp only; omega, by simp, h2, by omega⟩
        · cases hp2 : Sto.piece r2 with
          | none => rw [hp2] at h; cases h
          | some q =>
            obtain ⟨v, r3⟩ := q
            rw [hp2] at h
            simp only [Option.some.injEq, Prod.mk.injEq] at h
            obtain ⟨rfl, rfl⟩ := h
            obtain ⟨h5, h6, h7, h8⟩ := piece_sub h2 hp2
            exact ⟨h1, h5, by simp only; omega, by simp only; omega, h6, by omega⟩
def decEnd (m : Option (List Chg × List Int)) : List Chg × Int := match m with
  | none => ([], 4)
  | some (l, r) => if r ≠ [] ∨ Sto.chk l ≠ 0 then ([], 4) else (l, 0)
def decMore (x : Nat) (m : Option (Chg × List Int)) : Option (List Chg × List Int) := match m with
  | none => none
  | some (c, r) => match Sto.changes x r with
    | none => none
    | some (l, r2) => some (c :: l, r2)
def decPre (lk : List Chg) (m : Option (List Chg × List Int)) : Option (List Chg × List Int) := match m with
  | none => none
  | some (l, r) => some (lk ++ l, r)
theorem dec_eq (b : List Int) : Sto.dec b = if (Sto.rdF b).2.2 ≠ 0 ∨ 16 < (Sto.rdF b).1 then ([], 4) else decEnd (Sto.changes (Sto.rdF b).1 (b.drop (Sto.rdF b).2.1)) := by
  unfold Sto.dec decEnd
  rfl
theorem changes_eq (n : Nat) (b : List Int) : Sto.changes (n + 1) b = decMore n (Sto.change b) := by
  unfold decMore
  rw [Sto.changes]
  rfl
theorem decPre_more (lk : List Chg) (x : Nat) (c : Chg) (r : List Int) : decPre lk (decMore x (some (c, r))) = decPre (lk ++ [c]) (Sto.changes x r) := by
  unfold decPre decMore
  simp only
  cases Sto.changes x r with
  | none => rfl
  | some q => obtain ⟨l, r2⟩ := q; simp
theorem ChgOwn.blk {w : World} {ok : Nat → Prop} {v : Value} {l : List Chg} (h : ChgOwn w ok v l) : ∀ k, v.ownBlock = some k → ok k := by
  obtain ⟨vs, h1, h2, h3, h4⟩ := h
  exact h2.2
/-- Changes that were read, an error. -/
def DecIs (w : World) (p : List Chg × Int) : Value → World → Prop := fun v w' => Keeps (fun _ => False) w w' ∧ ∃ u, v = .tuple #[u, .int .i64 p.2] ∧ ChgOwn w' (fun j => w.heap.size ≤ j) u p.1
theorem decIs_no (w w' : World) (hk : Keeps (fun _ => False) w w') : DecIs w ([], 4) (.tuple #[.slice none 0 0, .int .i64 4]) w' := ⟨hk, _, rfl, ChgOwn.nil _ _⟩
theorem row2_chg : (Try.prog.info? 41).map (fun i => (i.zero, i.size)) = some (some (.agg #[.string ⟨#[]⟩, .bool false, .slice none 0 0]), 3) := by kernel_rfl
theorem cells_one {v : Value} (h : v.oneCell' = true) : v.cells = #[v] := by cases v <;> first | rfl | (simp [Value.oneCell'] at h)
theorem chgC_list (d : Chg) (u : Value) (h : u.oneCell' = true) : (Value.agg (chgC d u).toArray).cells = (chgC d u).toArray := by
  simp [Value.cells, chgC, cells_one h]
theorem chgC_cells (d : Chg) (u : Value) (h : u.oneCell' = true) : (Value.agg (chgC d u).toArray).cells.size = 3 := by
  rw [chgC_list d u h]; rfl
theorem chgC_flat (d : Chg) (u : Value) (h : u.oneCell' = true) : ([Value.agg (chgC d u).toArray].flatMap fun v => v.cells.toList).toArray = (chgC d u).toArray := by
  rw [List.flatMap_cons, List.flatMap_nil, List.append_nil, chgC_list d u h]
set_option maxHeartbeats 6400000 in
set_option maxRecDepth 100000 in
theorem decode_c {ok : Nat → Prop} {w : World} (v : Value) (b : List Int) (hr : Rd w ok v b.length (Disk.bytes8 b)) (hB : IsB b) (hl : b.length ≤ 1000000) (hok : ∀ j, ok j → j < w.heap.size) : Calls Try.prog 14 #[v] w (Rets (DecIs w (Sto.dec b))) := by
  obtain ⟨A, c, rfl, _⟩ := hr.slice
  have HR := Lib.hid hr
  have HB := Lib.hid hB
  have HV := Lib.hid (rdvar_c _ b hr hB hl)
  have HD := Lib.hid (dec_eq b)
  have hle := rd_le b
  have hx := rdF_lt b hB
  clear hr hB
  generalize Sto.rdF b = q at *
  obtain ⟨x, n, e⟩ := q
  simp only at HD HV hle hx
  by_cases he : e = 0
  · subst he
    obtain ⟨hn1, hn2⟩ := hle rfl
    clear hle
    by_cases h16 : 16 < x
    · have HE := Lib.hid (show Sto.dec b = ([], 4) by rw [HD.out, if_pos (.inr h16)])
      go_enter Try.func14, Try.ntmps14
      go_wp2_with (go_at_call 43; refine Rets.use HV.out ?_; rintro _ _ ⟨rfl, rfl⟩)
      go_ret2
      rw [HE.out]
      exact decIs_no _ _ (Keeps.refl _ _)
    · have HD2 := Lib.hid (show Sto.dec b = decEnd (Sto.changes x (b.drop n)) by rw [HD.out, if_neg (by rintro (h | h); exact h rfl; exact h16 h)])
      have hx16 : x ≤ 16 := by omega
      have HB0 := Lib.hid (show IsB (b.drop n) from fun y hy => HB.out y (List.drop_subset _ _ hy))
      have hbl : (b.drop n).length ≤ 1000000 := by rw [List.length_drop]; omega
      have hnl : b.length - n = (b.drop n).length := by rw [List.length_drop]
      go_enter Try.func14, Try.ntmps14
      go_wp2_with (first
        | (go_at_call 43; refine Rets.use HV.out ?_; rintro _ _ ⟨rfl, rfl⟩)
        | ((with_reducible refine at_ 25 rfl ?_); go_loud (refine step_slice_from rfl _ _ _ rfl 5 under_elem info_elem A b.length c n .i64 _ rfl rfl hn2 HR.out (Disk.bytes8_len b) ?_); intro v3 hr3))
      rw [drop8, hnl] at hr3
      generalize b.drop n = b0 at *
      have HR3 := Lib.hid hr3
      clear hr3
      go_loopw [0, 7, 27] (fun bv lv iv wr => ∃ (k : Nat) (rb : List Int) (lk : List Chg), k ≤ x ∧ iv = .int .u64 k ∧ Keeps (fun _ => False) w wr ∧ Rd wr ok bv rb.length (Disk.bytes8 rb) ∧ Hid (IsB rb ∧ ChgB lk) ∧ rb.length ≤ 1000000 ∧ lk.length = k ∧ ChgOwn wr (fun j => w.heap.size ≤ j) lv lk ∧ Hid (Sto.changes x b0 = decPre lk (Sto.changes (x - k) rb))) (fun _ _ iv _ => x - (intOf iv).toNat)
      case atStart => exact ⟨0, b0, [], Nat.zero_le _, rfl, Keeps.refl _ _, HR3.out, Lib.hid ⟨HB0.out, fun c hc => by cases hc⟩, hbl, rfl, ChgOwn.nil _ _, Lib.hid (by rw [Nat.sub_zero]; unfold decPre; cases Sto.changes x b0 <;> rfl)⟩
      case round =>
        obtain ⟨k, rb, lk, hk, rfl, hkr, hrb, HBB, hrl, hlk, hO, HC⟩ := hrel
        subst hlk
        have HKr := Lib.hid hkr
        have HRb := Lib.hid hrb
        have HO := Lib.hid hO
        have hwr := hkr.size
        obtain ⟨Al, cl, rfl, _⟩ := hO.slice
        obtain ⟨Ab, cb, rfl, _⟩ := hrb.slice
        by_cases hlt : lk.length < x
        · have HCh := Lib.hid (change_c _ rb hrb HBB.out.1 hrl (fun j hj => by have := hok j hj; omega))
          have HC2 := Lib.hid (show Sto.changes x b0 = decPre lk (decMore (x - (lk.length + 1)) (Sto.change rb)) by rw [HC.out, show x - lk.length = x - (lk.length + 1) + 1 by omega, changes_eq])
          clear hkr hrb hO HC
          cases hch : Sto.change rb with
          | none =>
            rw [hch] at HCh HC2
            have HE := Lib.hid (show Sto.dec b = ([], 4) by rw [HD2.out, HC2.out]; rfl)
            clear HC2
            go_wp2_with (first
              | (go_at_call 44; refine Rets.use HCh.out ?_; rintro _ w4 ⟨hk4, ch, vV, a4, rfl, hone⟩)
              | ((with_reducible refine at_ 8 rfl ?_); go_must (refine step_alloc rfl _ rfl _ chgZ row_chg rfl ?_); intro w5 hb5 hk5 hs5)
              | ((with_reducible refine at_store 41 (.tmp 8) (.tmp 32) rfl ?_); go_must (refine step_store rfl _ _ _ rfl w4.heap.size 0 (chgC ch vV) _ _ rfl rfl hb5 (by simp [chgZ, chgC]) (info_chgC ch vV) (by simp [Value.oneCell', chgC]; exact hone) ?_); intro w6 hb6 hk6 hs6))
            go_ret2
            rw [HE.out]
            exact decIs_no _ _ (((HKr.out.trans hk4 (fun _ _ h => h)).trans hk5 (fun _ _ h => h)).mono (S' := fun j => w.heap.size ≤ j) (fun _ _ h => h.elim) |>.trans hk6 (fun j _ h => by have := hk4.size; omega) |>.mono (fun j hj h => by omega))
          | some q =>
            obtain ⟨d, r2⟩ := q
            obtain ⟨hs1, hs2, hs3, hs4, hs5, hs6⟩ := change_sub HBB.out.1 hch
            rw [hch] at HCh HC2
            have HC3 := Lib.hid (show Sto.changes x b0 = decPre (lk ++ [d]) (Sto.changes (x - (lk.length + 1)) r2) by rw [HC2.out, decPre_more])
            have HBB2 := Lib.hid (show IsB r2 ∧ ChgB (lk ++ [d]) from ⟨hs5, fun c hc => by
              rcases List.mem_append.1 hc with hc | hc
              · exact HBB.out.2 c hc
              · rw [List.mem_singleton] at hc; subst hc; exact ⟨hs1, hs2, by omega, by omega⟩⟩)
            clear HC2 hch hs1 hs2 hs5
            go_wp2_with (first
              | (go_at_call 44; refine Rets.use HCh.out ?_; rintro _ w4 ⟨hk4, vV, a4, rfl, hOv, hra⟩; have hone := Rd.one hOv.rd; have hz4 := hk4.size)
              | ((with_reducible refine at_ 8 rfl ?_); go_must (refine step_alloc rfl _ rfl _ chgZ row_chg rfl ?_); intro w5 hb5 hk5 hs5)
              | ((with_reducible refine at_store 41 (.tmp 8) (.tmp 32) rfl ?_); go_must (refine step_store rfl _ _ _ rfl w4.heap.size 0 (chgC d vV) _ _ rfl rfl hb5 (by simp [chgZ, chgC]) (info_chgC d vV) (by simp [Value.oneCell', chgC]; exact hone) ?_); intro w6 hb6 hk6 hs6; rw [put_whole (by rfl)] at hb6; have HK6 := Lib.hid (((HKr.out.trans hk4 (fun _ _ h => h)).trans hk5 (fun _ _ h => h)).mono (S' := fun j => w.heap.size ≤ j) (fun _ _ h => h.elim) |>.trans hk6 (fun j _ h => by omega) |>.mono (S' := fun _ => False) (fun j hj h => by omega)); have HO6 := Lib.hid ((((HO.out.mono (ok' := fun j => w.heap.size ≤ j ∧ j < wr.heap.size) (fun j hj h => ⟨h, hj⟩)).kept hk4 (fun _ _ h => h)).kept hk5 (fun _ _ h => h)).kept hk6 (fun j h e => by omega)); have HV6 := Lib.hid ((((hOv.mono (ok' := fun j => wr.heap.size ≤ j ∧ j < w4.heap.size) (fun j hj h => ⟨h, hj⟩)).kept hk5 (fun _ _ h => h)).kept hk6 (fun j h e => by omega))); have HA6 := Lib.hid (((hra.kept hk5 (fun _ _ h => h))).kept hk6 (fun j h e => by have := hok j h; omega)))
              | ((with_reducible refine at_ 38 rfl ?_); go_must (refine step_load rfl _ _ rfl w4.heap.size 0 (chgC d vV) _ _ _ _ rfl hb6 rfl Try.underlying41 rfl (info_chgC d vV) ?_))
              | ((with_reducible refine at_ 39 rfl ?_); go_must (refine step_lit rfl 22 _ 1 rfl [.agg (chgC d vV).toArray] rfl rfl (by decide) 41 _ 3 Try.underlying22 row2_chg (by decide) (by decide) (by intro v hv; rw [List.mem_singleton] at hv; subst hv; exact chgC_cells d vV hone) ?_); intro w7 hb7 hk7 hs7)
              | ((with_reducible refine at_ 40 rfl ?_); go_must (refine step_push (ok := fun j => w.heap.size ≤ j) rfl _ _ rfl (.slice Al lk.length cl) lk rfl ((HO6.out.mono (fun j _ h => h.1)).kept hk7 (fun _ _ h => h)) d vV w6.heap.size rfl (by rw [hb7]; exact congrArg _ (congrArg (fun z => Obj.cells z _ _) (chgC_flat d vV hone))) ((HV6.out.mono (fun j _ h => Nat.le_trans hwr h.1)).kept hk7 (fun _ _ h => h)) (fun j h e => by have h1 := (HO6.out.blk j h).2; have h2 := (HV6.out.2 j e).1; omega) (by omega) ?_); intro v8 w8 hO8 hk8; have HK8 := Lib.hid ((HK6.out.trans hk7 (fun _ _ h => h)).mono (S' := fun j => w.heap.size ≤ j) (fun _ _ h => h.elim) |>.trans hk8 (fun j _ h => (HO6.out.blk j h).1) |>.mono (S' := fun _ => False) (fun j hj h => by omega))))
            go_roundw
            case rel => exact ⟨lk.length + 1, r2, lk ++ [d], hlt, by go_num, HK8.out, (HA6.out.kept hk7 (fun _ _ h => h)).kept hk8 (fun j h e => by have h1 := (HO6.out.blk j e).1; have := hok j h; omega), HBB2, by omega, by rw [List.length_append]; rfl, hO8.mono (fun j _ h => h.elim (fun h => h) (fun h => by have := hk7.size; omega)), HC3⟩
            case measure => simp [intOf]; omega
        · obtain rfl : lk.length = x := by omega
          have HE1 := Lib.hid (show Sto.dec b = if rb ≠ [] ∨ Sto.chk lk ≠ 0 then ([], 4) else (lk, 0) by
            rw [HD2.out, HC.out, Nat.sub_self]
            show decEnd (some (lk ++ [], rb)) = _
            rw [List.append_nil]; rfl)
          clear hkr hrb hO HC
          by_cases hrb0 : rb = []
          · subst hrb0
            have HCk := Lib.hid (fun (w' : World) (h : Chgs w' (fun j => w.heap.size ≤ j ∧ j < w'.heap.size) (.slice Al lk.length cl) lk) => check_c lk HBB.out.2 (by omega) _ h (fun j h => h.2))
            have HCs := Lib.hid ((HO.out.mono (ok' := fun j => w.heap.size ≤ j ∧ j < wr.heap.size) (fun j hj h => ⟨h, hj⟩)).chgs)
            by_cases hc0 : Sto.chk lk = 0
            · have HE := Lib.hid (show Sto.dec b = (lk, 0) by rw [HE1.out, if_neg (by rintro (h | h); exact h rfl; exact h hc0)])
              rw [hc0] at HCk
              go_wp2_with (go_at_call 18; refine Rets.use (HCk.out _ HCs.out) ?_; rintro _ w2 ⟨rfl, hk2⟩)
              go_ret2
              rw [HE.out]
              exact ⟨HKr.out.trans hk2 (fun _ _ h => h), _, rfl, HO.out.kept hk2 (fun _ _ h => h)⟩
            · have HE := Lib.hid (show Sto.dec b = ([], 4) by rw [HE1.out, if_pos (.inr hc0)])
              have hq : (Sto.chk lk != 0) = true := by simpa using hc0
              generalize Sto.chk lk = e at *
              go_wp2_with (go_at_call 18; refine Rets.use (HCk.out _ HCs.out) ?_; rintro _ w2 ⟨rfl, hk2⟩)
              go_ret2
              rw [HE.out]
              exact decIs_no _ _ (HKr.out.trans hk2 (fun _ _ h => h))
          · have HE := Lib.hid (show Sto.dec b = ([], 4) by rw [HE1.out, if_pos (.inl hrb0)])
            have hpos : 0 < rb.length := List.length_pos_iff.2 hrb0
            go_wp2
            go_ret2
            rw [HE.out]
            exact decIs_no _ _ HKr.out
  · have HE := Lib.hid (show Sto.dec b = ([], 4) by rw [HD.out, if_pos (.inl he)])
    have hq : (e != 0) = true := by simpa using he
    go_enter Try.func14, Try.ntmps14
    go_wp2_with (go_at_call 43; refine Rets.use HV.out ?_; rintro _ _ ⟨rfl, rfl⟩)
    go_ret2
    rw [HE.out]
    exact decIs_no _ _ (Keeps.refl _ _)
end Go.Proofs.Ytbiohidelhfaiaa
end

section
namespace Go.Proofs.Ytbiohidelhfaiaa
open Go.RowKit Go.Canon Go.Mem Go.Args
open Go.Disk (St)
open Go.Proofs.Ytbiohidelhfaiaa.Sto (Chg)
set_option linter.unusedVariables false
set_option linter.unusedSimpArgs false
namespace Sto
/-- The changes of texts, one text behind the other; how many they are. -/
def loadP : (Mp × Int) × Nat → List (List Int) → Int × (Mp × Int) × Nat
  | s, [] => (0, s)
  | s, t :: r => if (dec t).2 ≠ 0 then ((dec t).2, s) else loadP (doF s.1 (dec t).1, s.2 + (dec t).1.length) r
end Sto
def openS (s : St) (q : Int) : Int × Option StoS × St :=
  if q < 0 then (2, none, s)
  else match openP s with
    | (e, none, s') => (e, none, s')
    | (_, some L, s') => if (Sto.loadP (([], 0), 0) L.texts).1 ≠ 0 then ((Sto.loadP (([], 0), 0) L.texts).1, none, s')
      else (0, some ⟨L, q, (Sto.loadP (([], 0), 0) L.texts).2.1.1, (Sto.loadP (([], 0), 0) L.texts).2.1.2, (Sto.loadP (([], 0), 0) L.texts).2.2⟩, s')
theorem openP_err (s : St) : ((openP s).2.1 = none → (openP s).1 ≠ 0) ∧ ∀ L, (openP s).2.1 = some L → (openP s).1 = 0 := by
  unfold openP
  split
  · exact ⟨fun _ h => (by cases h), fun L h => by cases h⟩
  · cases scan (flatS s.now) s.now.length (s.now.length + 1) [] 0 with
    | none => exact ⟨fun _ h => (by cases h), fun L h => by cases h⟩
    | some q =>
      obtain ⟨ls, nx⟩ := q
      simp only
      split
      · exact ⟨fun h => (by cases h), fun L _ => rfl⟩
      · rename_i h
        exact ⟨fun _ => h, fun L h => by cases h⟩
/-- A disk in memory, apart. -/
def DL (W w : World) (g : Nat) (s : St) : Prop := Keeps (fun _ => False) W w ∧ ∃ P : Nat → Prop, DIs w P g s ∧ ∀ k, P k → W.heap.size ≤ k ∧ k < w.heap.size
theorem keyB {k : List Int} (h : Sto.keyF k = true) : IsB k := by
  unfold Sto.keyF at h
  simp only [Bool.and_eq_true, decide_eq_true_eq, List.all_eq_true] at h
  intro x hx
  have := h.1 x hx
  unfold Sto.keyC at this
  simp only [Bool.and_eq_true, decide_eq_true_eq] at this
  omega
theorem dec_chgB {b : List Int} (hB : IsB b) : ChgB (Sto.dec b).1 ∧ (Sto.dec b).1.length ≤ 16 ∧ ((Sto.dec b).2 = 0 ∨ (Sto.dec b).2 = 4) := by
  rcases Sto.dec_cases b hB with h | ⟨l, h, e, hc⟩
  · rw [h]; exact ⟨fun c hc => (by cases hc), by decide, .inr rfl⟩
  · rw [h]
    obtain ⟨h1, h2, h3⟩ := Sto.chk_good hc
    refine ⟨fun c hc => ?_, h3, .inl rfl⟩
    obtain ⟨h4, h5, h6⟩ := h1 c hc
    have hk := h5
    unfold Sto.keyF at hk
    simp only [Bool.and_eq_true, decide_eq_true_eq] at hk
    refine ⟨keyB h5, fun y hy => ?_, by omega, by omega⟩
    apply hB y
    rw [e]
    unfold Sto.encL
    refine List.mem_append_right _ (List.mem_flatMap.2 ⟨c, hc, ?_⟩)
    unfold Sto.enc1
    cases hd : c.del with
    | true => rw [h4.d hd] at hy; cases hy
    | false => simp [Sto.counted, hy]
section
variable {ops : Array Oper} {op : Oper} {rest : List Oper} {a : Act} {w : World} {Q : Exit → Act → World → Prop}
/-- map[..]..{}. -/
theorem step_makeMap (hgd : Region.wanted op (yielded ops a.tmps) = true) (ho : op.op = Op.makeMap 80 none)
    (h : ∀ w', MapIs w' w.heap.size (fun _ => False) 0 [] → Keeps (fun _ => False) w w' → w'.heap.size = w.heap.size + 1 → wpList Try.prog ops Q rest (a.put op.dst (.map (some w.heap.size))) w') : wpList Try.prog ops Q (op :: rest) a w := by
  refine plain_ hgd fun K hK => ?_
  unfold Oper.wp execOp
  simp only [ho, Option.map_none, Sem.run_bind, run_makeMap, Result.andThen_ok, Sem.run_pure]
  exact hK _ _ (h _ ⟨_, World.ownsMap_made w Try.prog 9 Rv, fun k _ => rfl⟩ ((Keeps.refl _ w).alloc _) (by simp))
end
def OpnPost (W : World) (g : Nat) (r : Int × Option StoS × St) : Value → World → Prop := fun v w' => match r.2.1 with
  | none => v = .tuple #[.pointer none, .int .i64 r.1] ∧ DL W w' g r.2.2
  | some S => ∃ x, v = .tuple #[.pointer (some ⟨x, 0, none⟩), .int .i64 0] ∧ SL W w' g x r.2.2 S
set_option maxHeartbeats 12800000 in
set_option maxRecDepth 100000 in
theorem open_c {W w : World} {g : Nat} {s : St} (h : DL W w g s) (q : Int) (few : s.opn.length ≤ 900000) (hB : IsB (flatS s.now)) (hL : ∀ L, (openP s).2.1 = some L → L.texts.length ≤ 4096 ∧ ∀ t ∈ L.texts, IsB t ∧ t.length ≤ 1000000) : Calls Try.prog 24 #[.pointer (some ⟨g, 0, none⟩), .int .i64 q] w (Rets (OpnPost W g (openS s q))) := by
  have HD := Lib.hid h
  obtain ⟨h0, P, hd, hP⟩ := h
  have hz0 := h0.size
  have HW := Lib.hid h0
  have HP := Lib.hid hP
  have HO := Lib.hid (wopen_c hd few hB)
  have HL := Lib.hid hL
  clear h0 hd hP hL hB
  by_cases hq : q < 0
  · have HE := Lib.hid (show openS s q = (2, none, s) by unfold openS; rw [if_pos hq])
    go_enter Try.func24, Try.ntmps24
    go_wp2
    go_ret2
    rw [HE.out]
    exact ⟨rfl, HD.out⟩
  · have HE0 := Lib.hid (show openS s q = match openP s with
      | (e, none, s') => (e, none, s')
      | (_, some L, s') => if (Sto.loadP (([], 0), 0) L.texts).1 ≠ 0 then ((Sto.loadP (([], 0), 0) L.texts).1, none, s')
        else (0, some ⟨L, q, (Sto.loadP (([], 0), 0) L.texts).2.1.1, (Sto.loadP (([], 0), 0) L.texts).2.1.2, (Sto.loadP (([], 0), 0) L.texts).2.2⟩, s') by unfold openS; rw [if_neg hq])
    have HE4 := Lib.hid (openP_err s)
    generalize openP s = r at *
    obtain ⟨e, oL, s'⟩ := r
    cases oL with
    | none =>
      have HE := Lib.hid (show openS s q = (e, none, s') from HE0.out)
      have hqe : (e != 0) = true := by simpa using (HE4.out.1 rfl : e ≠ 0)
      go_enter Try.func24, Try.ntmps24
      go_wp2_with (go_at_call 50; refine Rets.use HO.out ?_; rintro v2 w2 ⟨hk2, Q2, hQ2, hd2, hv2⟩; obtain ⟨_, rfl⟩ := hv2.resolve_right (fun ⟨_, _, h, _⟩ => by cases h))
      go_ret2
      rw [HE.out]
      have hz2 := hk2.size
      exact ⟨rfl, HW.out.trans hk2 (fun k hk h => by have := HP.out k h; omega), _, hd2.bound, fun k hk => ⟨hk.1.1.elim (fun h => (HP.out k h).1) (fun h => by omega), hk.2⟩⟩
    | some L =>
      obtain ⟨hL1, hL2⟩ := HL.out L rfl
      have HL2 := Lib.hid hL2
      have he0 : e = 0 := HE4.out.2 L rfl
      subst he0
      have HE1 := Lib.hid (show openS s q = if (Sto.loadP (([], 0), 0) L.texts).1 ≠ 0 then ((Sto.loadP (([], 0), 0) L.texts).1, none, s')
        else (0, some ⟨L, q, (Sto.loadP (([], 0), 0) L.texts).2.1.1, (Sto.loadP (([], 0), 0) L.texts).2.1.2, (Sto.loadP (([], 0), 0) L.texts).2.2⟩, s') from HE0.out)
      clear hL2 HE0 HL
      go_enter Try.func24, Try.ntmps24
      go_wp2_with (first
        | (go_at_call 50; refine Rets.use HO.out ?_; rintro v2 w2 ⟨hk2, Q2, hQ2, hd2, hv2⟩; obtain ⟨L2, y, e2, rfl, hm2⟩ := hv2.resolve_left (fun h => by cases h.1); cases e2; have hz2 := hk2.size)
        | ((with_reducible refine at_ 25 rfl ?_); go_must (refine step_makeMap rfl rfl ?_); intro w3 hM3 hk3 hs3)
        | ((with_reducible refine at_ 27 rfl ?_); go_must (refine step_box rfl 82 _ rfl _ rfl (stoC (.pointer (some ⟨y, 0, none⟩)) q 0 w2.heap.size) rfl ?_); intro w4 hb4 hk4 hs4)
        | (go_at_call 51; go_loud (refine Rets.use (texts_c ((hm2.kept hk3 (fun _ _ h => h)).kept hk4 (fun _ _ h => h)) hL1 (fun t ht => (HL2.out t ht).2)) ?_); rintro v5 w5 ⟨hk5, vs, hO5, hr5⟩; obtain ⟨A5, c5, rfl, _⟩ := hO5.slice))
      have hkk : Keeps (fun _ => False) w2 w5 := (hk3.trans hk4 (fun _ _ h => h)).trans hk5 (fun _ _ h => h)
      have hz5 := hk5.size
      have HS5 := Lib.hid (show SIs w5 (w2.heap.size + 1) w2.heap.size (fun j => w5.heap.size ≤ j) (.pointer (some ⟨y, 0, none⟩)) q 0 ([], 0) from ⟨hs3 ▸ hk5.heap hb4 (fun h => h), ((hM3.kept hk4 (fun h => h) (fun _ h _ => h)).kept hk5 (fun h => h) (fun _ h _ => h)).mono (Nat.le_refl _) (fun _ _ h => h.elim), by omega, by omega, by omega⟩)
      have HM5 := Lib.hid (hm2.kept hkk (fun _ _ h => h))
      have HD5 := Lib.hid (hd2.bound.kept hkk (fun _ _ h => h))
      have HW5 := Lib.hid ((HW.out.trans hk2 (fun k hk h => by have := HP.out k h; omega)).trans hkk (fun _ _ h => h))
      have HR5 := Lib.hid hr5
      have HO5 := Lib.hid hO5
      have HQ2 := Lib.hid hQ2
      have hx5 : w2.heap.size + 2 ≤ w5.heap.size := by omega
      have hw2 : w.heap.size ≤ w2.heap.size := hz2
      have hw4 : w4.heap.size = w2.heap.size + 2 := by omega
      rw [hw4] at HR5 HO5
      generalize hbmx : w2.heap.size = bm at *
      clear hk2 hQ2 hd2 hv2 hm2 hM3 hk3 hs3 hb4 hk4 hs4 hk5 hO5 hr5 hkk
      go_loopw [31] (fun i wr => ∃ (k : Nat) (st : (Sto.Mp × Int) × Nat), k ≤ L.texts.length ∧ i = .int .i64 k ∧ Keeps (fun j => j = bm + 1 ∨ j = bm) w5 wr ∧ SIs wr (bm + 1) bm (fun j => w5.heap.size ≤ j ∧ j < wr.heap.size) (.pointer (some ⟨y, 0, none⟩)) q st.2 st.1 ∧ -(64000000 * (k : Int)) ≤ st.1.2 ∧ st.1.2 ≤ 64000000 * k ∧ st.2 ≤ 16 * k ∧ Hid (Sto.loadP (([], 0), 0) L.texts = Sto.loadP st (L.texts.drop k))) (fun i _ => L.texts.length - (intOf i).toNat)
      case atStart => exact ⟨0, (([], 0), 0), Nat.zero_le _, rfl, Keeps.refl _ _, ⟨HS5.out.blk, HS5.out.map.mono (Nat.le_refl _) (fun j hj h => ⟨h, hj⟩), fun h => by omega, fun h => by omega, by omega⟩, by simp, by simp, by simp, Lib.hid rfl⟩
      case round =>
        obtain ⟨k, st, hk, rfl, hkr, hSr, hu1, hu2, hn, HF⟩ := hrel
        have HKr := Lib.hid hkr
        have HSr := Lib.hid hSr
        have hwr := hkr.size
        by_cases hlt : k < L.texts.length
        · obtain ⟨u, hu, hru⟩ := HR5.out k _ (List.getElem?_eq_getElem hlt)
          obtain ⟨hBt, hlt2⟩ := HL2.out _ (List.getElem_mem hlt)
          obtain ⟨g5, cap5, cur5, e5, hg5, hb5, _⟩ := HO5.out.form (by omega)
          cases e5
          have cu := hkr.cell (HO5.out.cells rfl k u hu) (fun e => by rcases e with e | e <;> (simp only at e; omega))
          have hru2 := ((hru.mono (ok' := fun j => bm + 2 ≤ j ∧ j < wr.heap.size) (fun j h => ⟨h.1, by omega⟩)).kept hkr (fun j h e => by omega))
          have HDc := Lib.hid (decode_c u L.texts[k] hru2 hBt hlt2 (fun j h => h.2))
          obtain ⟨hCB, hC16, hCe⟩ := dec_chgB hBt
          have HN := Lib.hid (show Sto.loadP (([], 0), 0) L.texts = if (Sto.dec L.texts[k]).2 ≠ 0 then ((Sto.dec L.texts[k]).2, st) else Sto.loadP (Sto.doF st.1 (Sto.dec L.texts[k]).1, st.2 + (Sto.dec L.texts[k]).1.length) (L.texts.drop (k + 1)) by rw [HF.out, List.drop_eq_getElem_cons hlt, Sto.loadP])
          generalize Sto.dec L.texts[k] = d at *
          obtain ⟨l, e⟩ := d
          simp only at hCB hC16 hCe HN
          obtain ⟨Au, cu', rfl, _⟩ := hru.slice
          have HCB := Lib.hid hCB
          clear hu hru hru2 hBt hb5 hkr hSr HF hCB
          by_cases he : e = 0
          · subst he
            have HN2 := Lib.hid (HN.out.trans (if_neg (fun h => h rfl)))
            clear hCe HN
            go_wp2_with (first
              | (go_at_call 14; refine Rets.use HDc.out ?_; rintro v6 w6 ⟨hk6, u6, rfl, hO6⟩; have hz6 := hk6.size; have HO6 := Lib.hid (hO6.mono (ok' := fun j => wr.heap.size ≤ j ∧ j < w6.heap.size) (fun j hj h => ⟨h, hj⟩)))
              | (go_at_call 52; refine Rets.use (do_b (HSr.out.kept0 hk6) (fun j h => by omega) l HCB.out (by omega) (by omega) ⟨by omega, by omega⟩ _ HO6.out.chgs (fun j h => ⟨h.2, by omega, by omega⟩)) ?_; rintro _ w7 ⟨⟨rfl, hk7, hS7⟩, hu7, hu8⟩))
            have hz7 := hk7.size
            go_roundw
            case rel => exact ⟨k + 1, (Sto.doF st.1 l, st.2 + l.length), hlt, by go_num, (HKr.out.trans hk6 (fun _ _ h => h.elim)).trans hk7 (fun _ _ h => h), ⟨hS7.blk, hS7.map.mono (Nat.le_refl _) (fun j hj h => ⟨h.elim (fun h => h.1) (fun h => by omega), hj⟩), fun h => by omega, fun h => by omega, hS7.ne⟩, by simp only; omega, by simp only; omega, by simp only; omega, HN2⟩
            case measure => simp [intOf]; omega
          · have HN2 := Lib.hid (HN.out.trans (if_pos he))
            have hqe : (e != 0) = true := by simpa using he
            go_wp2_with (first
              | (go_at_call 14; refine Rets.use HDc.out ?_; rintro v6 w6 ⟨hk6, u6, rfl, hO6⟩; have hz6 := hk6.size))
            go_ret2
            have HE := Lib.hid (show openS s q = (e, none, s') by rw [HE1.out, HN2.out]; exact if_pos he)
            rw [HE.out]
            have hk56 := HKr.out.trans hk6 (fun _ _ h => h.elim)
            exact ⟨rfl, HW5.out.trans hk56 (fun j hj h => by omega), _, HD5.out.kept hk56 (fun j h e => by omega), fun j h => ⟨h.1.1.elim (fun h => (HP.out j h).1) (fun h => by omega), by omega⟩⟩
        · obtain rfl : k = L.texts.length := by omega
          have HE := Lib.hid (show openS s q = (0, some ⟨L, q, st.1.1, st.1.2, st.2⟩, s') by
            rw [HE1.out, HF.out, List.drop_length]
            simp [Sto.loadP])
          go_wp2
          go_ret2
          rw [HE.out]
          have hW' := HW5.out.trans HKr.out (fun j hj h => by omega)
          refine ⟨bm + 1, rfl, hW', y, bm, _, Q2, _, HD5.out.kept HKr.out (fun j h e => by omega), HM5.out.kept HKr.out (fun j h e => by have := HQ2.out j h; omega), HSr.out, ?_, ?_, fun j h => ⟨by omega, h.2⟩, by omega, by omega⟩
          · intro j h
            exact ⟨h.1.1.elim (fun h => (HP.out j h).1) (fun h => by omega), by omega, h.1.2, fun e => by omega, by omega, by omega⟩
          · intro j h
            have := HQ2.out j h
            exact ⟨by omega, by omega, fun e => by omega, by omega, by omega⟩
end Go.Proofs.Ytbiohidelhfaiaa
end

section
namespace Go.Proofs.Ytbiohidelhfaiaa
open Go.RowKit Go.Canon Go.Mem Go.Args
open Go.Disk (St)
set_option linter.unusedVariables false
set_option linter.unusedSimpArgs false
theorem write_quiet {s : St} (ho : s.off = false) (ha : s.armed = false) (i : Int) (b : List Int) (h1 : 0 ≤ i) (h2 : i < s.now.length) (hb : b.length ≤ 64) : s.write i b = (0, { s with now := s.now.set i.toNat (Disk.pad b), opn := s.opn ++ [(i, Disk.pad b)] }) := by
  unfold St.write St.step
  simp [ho, ha]
  omega
theorem sync_quiet {s : St} (ho : s.off = false) (ha : s.armed = false) : s.sync.1 = 0 := by
  unfold St.sync St.step
  simp [ho, ha]
theorem sec_mem {l : List Int} {j : Nat} {x : Int} (h : x ∈ secF l j) : x ∈ l := List.mem_of_mem_drop (List.mem_of_mem_take h)
theorem blank_zero {l : List Int} (h : ∀ x ∈ l, x = 0) : blankF l = true := by
  unfold blankF
  rw [List.all_eq_true]
  intro x hx
  simpa using h x hx
theorem wipe_zero {all : List Int} (h : ∀ x ∈ all, x = 0) (frm : Nat) : ∀ (m : Nat) (s : St), wipeGo all frm m false s = (0, false, s) := by
  intro m
  induction m with
  | zero => intro s; rfl
  | succ m ih => intro s; rw [wipeGo, if_pos (blank_zero (fun x hx => h x (sec_mem hx))), ih]
theorem zero_flat (n : Nat) : ∀ x ∈ flatS (fresh n).now, x = 0 := by
  intro x hx
  unfold flatS fresh at hx
  obtain ⟨z, hz, hx⟩ := List.mem_flatten.1 hx
  have h1 := List.eq_of_mem_replicate hz
  subst h1
  unfold Disk.zsec at hx
  exact List.eq_of_mem_replicate hx
theorem openP_fresh (n : Nat) : openP (fresh n) = (0, some ⟨[], 0, false⟩, fresh n) := by
  have hz := zero_flat n
  have hs : scan (flatS (fresh n).now) (fresh n).now.length ((fresh n).now.length + 1) [] 0 = some ([], 0) := by
    rw [scan, if_neg (fun h => by rw [blank_zero (fun x hx => hz x (sec_mem hx))] at h; cases h.2)]
  have hw : wipeP (fresh n) (flatS (fresh n).now) 0 = (0, fresh n) := by
    unfold wipeP
    rw [wipe_zero hz]
    rfl
  unfold openP
  rw [if_neg (by simp [fresh]), hs]
  simp only [hw]
  rfl
theorem openP_two : openP (fresh 2) = (0, some ⟨[], 0, false⟩, fresh 2) := openP_fresh 2
theorem lay_two (f : List Int) (h1 : 1 ≤ f.length) (h2 : f.length ≤ 64) : (layP (fresh 2) 0 f).1 = 0 := by
  have e : spanF f.length - 1 = 0 := by unfold spanF; omega
  unfold layP
  rw [e]
  have e2 : layGo f 0 0 1 (fresh 2) = (0, fresh 2) := rfl
  rw [e2, if_pos rfl]
  unfold layMid
  rw [if_neg (by omega)]
  unfold layEnd
  have hw := write_quiet (s := fresh 2) rfl rfl ((0 : Nat) : Int) (f.take 64) (by decide) (by simp [fresh]) (by rw [List.length_take]; omega)
  rw [hw, if_pos rfl]
  exact sync_quiet rfl rfl
theorem append_two : (appendP (fresh 2) ⟨[], 0, false⟩ [97]).1 = 0 ∧ (appendP (fresh 2) ⟨[], 0, false⟩ [97]).2.2 = ⟨[[97]], 1, false⟩ := by
  have hl := lay_two (putF ((([] : List (List Int)).length : Int) + 1) [97]) (by rw [putF_len]; decide) (by rw [putF_len]; decide)
  unfold appendP
  rw [if_neg (by simp), if_neg (by simp), if_neg (by simp [fresh, spanF]), if_pos hl]
  exact ⟨rfl, rfl⟩
theorem flat_fresh (n : Nat) : IsB (flatS (fresh n).now) := fun x hx => by rw [zero_flat n x hx]; decide
end Go.Proofs.Ytbiohidelhfaiaa
end

section
namespace Go.Proofs.Ytbiohidelhfaiaa
open Go.RowKit Go.Canon Go.Mem Go.Args
open Go.Disk (St)
open Go.Proofs.Ytbiohidelhfaiaa.Sto (Chg)
set_option linter.unusedVariables false
set_option linter.unusedSimpArgs false
def s0 : StoS := ⟨⟨[], 0, false⟩, 9, [], 0, 0⟩
theorem openS_two : openS (fresh 2) 9 = (0, some s0, fresh 2) := by
  unfold openS
  rw [if_neg (by decide), openP_two]
  rfl
def c0 : Chg := ⟨[97], false, [49]⟩
theorem chk_c0 : Sto.chk [c0] = 0 := by decide
theorem enc_c0 : Sto.encL [c0] = [1, 0, 1, 97, 1, 49] := by decide
theorem commit_two : (commitP (fresh 2) s0 [c0]).1 = 0 ∧ (commitP (fresh 2) s0 [c0]).2.2.u = 2 := by
  have h1 : ¬ (s0.q < Sto.thenGo s0.M s0.u [c0] ∧ s0.u < Sto.thenGo s0.M s0.u [c0]) := by decide
  have h2 : (appendP (fresh 2) s0.L (Sto.encL [c0])).1 = 0 := by
    rw [enc_c0]
    have hl := lay_two (putF ((([] : List (List Int)).length : Int) + 1) [1, 0, 1, 97, 1, 49]) (by rw [putF_len]; decide) (by rw [putF_len]; decide)
    unfold appendP
    rw [if_neg (by simp [s0]), if_neg (by simp), if_neg (by simp [fresh, spanF, s0])]
    rw [show s0.L.texts.length = ([] : List (List Int)).length from rfl, show s0.L.next = 0 from rfl, if_pos hl]
  unfold commitP
  rw [if_neg (fun h => h chk_c0), if_neg h1, if_neg (fun h => h h2)]
  exact ⟨rfl, by decide⟩
section
variable {w : World} {x bm n : Nat} {R : Nat → Prop} {lv : Value} {q : Int} {s : Sto.Mp × Int}
theorem used_c (h : SIs w x bm R lv q n s) : Calls Try.prog 35 #[.pointer (some ⟨x, 0, none⟩)] w (Rets (Only (.int .i64 s.2) w)) := by
  have c2 := h.c2
  clear h
  go_enter Try.func35, Try.ntmps35
  go_wp2
  go_ret
  exact ⟨rfl, rfl⟩
theorem used_nil (w : World) : Calls Try.prog 35 #[.pointer none] w (Rets (Only (.int .i64 0) w)) := by
  go_enter Try.func35, Try.ntmps35
  go_wp2
  go_ret
  exact ⟨rfl, rfl⟩
end
theorem c0B : ChgB [c0] := fun c hc => by
  rw [List.mem_singleton] at hc
  subst hc
  exact ⟨fun x hx => by rw [show c0.key = [97] from rfl, List.mem_singleton] at hx; subst hx; decide, fun x hx => by rw [show c0.val = [49] from rfl, List.mem_singleton] at hx; subst hx; decide, by decide, by decide⟩
theorem one_chg {w2 w3 : World} {b : Nat} {fr : Nat × Nat} (hb : w3.heap[b]? = some (.cells (chgC c0 (.slice (some ⟨w2.heap.size, 0, none⟩) 1 1)).toArray 41 (0, 0))) (hbb : b = w2.heap.size + 1) (h : w3.heap[w2.heap.size]? = some (.cells #[.int .u8 49] 5 fr)) : Chgs w3 (fun j => w2.heap.size ≤ j ∧ j < w3.heap.size) (.slice (some ⟨b, 0, none⟩) 1 1) [c0] := by
  have h1 := lt_of hb
  have h2 := lt_of h
  refine ⟨some ⟨b, 0, none⟩, 1, rfl, Nat.le_refl _, fun h => (by cases h), fun i d hi => ?_⟩
  obtain rfl : i = 0 := by have := (List.getElem?_eq_some_iff.1 hi).1; simp at this; omega
  simp only [List.getElem?_cons_zero, Option.some.injEq] at hi
  subst hi
  refine ⟨b, 0, rfl, ⟨by omega, h1⟩, .slice (some ⟨w2.heap.size, 0, none⟩) 1 1, (cell_of_row w3 b 0 _ _ _ hb).trans rfl, (cell_of_row w3 b 1 _ _ _ hb).trans rfl, (cell_of_row w3 b 2 _ _ _ hb).trans rfl, ?_⟩
  exact ⟨_, _, rfl, Nat.le_refl _, fun h => (by cases h), .inr ⟨_, _, rfl, ⟨Nat.le_refl _, h2⟩, fun j u hu => by rw [cell_of_row _ _ _ _ _ _ h, Nat.zero_add]; simpa [Disk.bytes8, c0] using hu⟩⟩
set_option maxHeartbeats 3200000 in
set_option maxRecDepth 100000 in
theorem lives11_c (w : World) : Calls Try.prog 20 #[] w (Rets (Yes w)) := by
  have HO := Lib.hid openS_two
  have HC := Lib.hid commit_two
  have HB := Lib.hid (flat_fresh 2)
  obtain ⟨r, hr⟩ : ∃ r, r = commitP (fresh 2) s0 [c0] := ⟨_, rfl⟩
  have HR := Lib.hid hr
  rw [← hr] at HC
  clear hr
  have HP2 := Lib.hid (show ∀ L, (openP (fresh 2)).2.1 = some L → L.texts.length ≤ 4096 ∧ ∀ t ∈ L.texts, IsB t ∧ t.length ≤ 1000000 from fun L h => by
    rw [openP_two] at h
    cases h
    exact ⟨by decide, fun t ht => by cases ht⟩)
  have kc := fun (w : World) (C : Array Value) (n c : Nat) => Lib.run_convert_bytes_const (P := Try.prog) w 23 5 C n c Try.underlying23 Try.underlying5
  go_enter Try.func20, Try.ntmps20
  go_wp2_with (first
    | (go_at_call 23; go_loud (refine Rets.use (dNew_c 2 (by decide) (by decide) _) ?_); rintro v1 w1 ⟨hk1, g, rfl, hd1⟩)
    | (go_at_call 24; go_loud (refine Rets.use (open_c (W := w) (w := w1) (g := g) (s := fresh 2) ⟨hk1, _, hd1, fun k h => h⟩ 9 (by decide) HB.out HP2.out) ?_); intro v2 w2 hp2; rw [HO.out] at hp2; obtain ⟨x, rfl, hS2⟩ := hp2)
    | ((with_reducible refine at_ 21 rfl ?_); go_must (refine step_lit rfl 22 _ 1 rfl [.agg (chgC c0 (.slice (some ⟨w2.heap.size, 0, none⟩) 1 1)).toArray] rfl rfl (by decide) 41 _ 3 Try.underlying22 row2_chg (by decide) (by decide) (by intro v hv; rw [List.mem_singleton] at hv; subst hv; exact chgC_cells _ _ rfl) ?_); intro w3 hb3 hk3 hs3; go_loud (rw [chgC_flat _ _ rfl, show (w2.alloc (.cells #[.int .u8 49] 5 (1, 2))).heap.size = w2.heap.size + 1 by simp] at hb3); have hk23 : Keeps (fun _ => False) w2 w3 := ((Keeps.refl _ w2).alloc _).trans hk3 (fun _ _ h => h); go_loud (have hc3 := (one_chg hb3 rfl (hk3.heap (heap_alloc_new w2 _) (fun h => h)) : Chgs w3 (fun j => w2.heap.size ≤ j ∧ j < w3.heap.size) _ [c0])))
    | (go_at_call 26; go_loud (refine Rets.use (commit_c hS2 hk23 (by decide) (by decide) (by decide) (by decide) ⟨by decide, by decide⟩ [c0] c0B (by decide) _ hc3 (fun k h => ⟨.inr h.1, h.2⟩)) ?_); rintro v4 w4 hp4; rw [← HR.out] at hp4; obtain ⟨rfl, hS4, hk4⟩ := hp4; rw [HC.out.1])
    | (go_at_call 35; go_loud (refine Rets.use (used_c hS4.2.choose_spec.choose_spec.choose_spec.choose_spec.choose_spec.s) ?_); rintro _ _ ⟨rfl, rfl⟩; simp only [HC.out.2]))
  go_ret
  exact ⟨rfl, hS4.1⟩
end Go.Proofs.Ytbiohidelhfaiaa
end

section
namespace Go.Proofs.Ytbiohidelhfaiaa
open Go.RowKit Go.Canon Go.Mem Go.Lib
set_option linter.unusedVariables false
set_option linter.unusedSimpArgs false
/-- The block holds the bytes at its front. -/
def MRow (w : World) (b : Nat) (l : List Int) : Prop := ∃ C : Array Value, w.heap[b]? = some (.cells C 5 (C.size, C.size + 1)) ∧ l.length ≤ C.size ∧ C.toList.take l.length = Disk.bytes8 l
theorem MRow.kept {w w' : World} {S : Nat → Prop} {b : Nat} {l : List Int} (h : MRow w b l) (hk : Keeps S w w') (hn : ¬ S b) : MRow w' b l := by
  obtain ⟨C, h1, h2, h3⟩ := h
  exact ⟨C, hk.heap h1 hn, h2, h3⟩
theorem MRow.cell {w : World} {b : Nat} {l : List Int} (h : MRow w b l) {k : Nat} (hk : k < l.length) : w.cell? ⟨b, k, none⟩ = some (.int .u8 l[k]) := by
  obtain ⟨C, h1, h2, h3⟩ := h
  have h4 : C[k]? = some (.int .u8 l[k]) := by
    have : (C.toList.take l.length)[k]? = some (.int .u8 l[k]) := by rw [h3]; simp [Disk.bytes8, hk]
    rw [List.getElem?_take, if_pos hk] at this
    simpa using this
  unfold World.cell?
  rw [h1]
  exact h4
theorem MRow.rd {w : World} {b c : Nat} {l : List Int} (h : MRow w b l) (hc : l.length ≤ c) {ok : Nat → Prop} (hok : ok b) : Rd w ok (.slice (some ⟨b, 0, none⟩) l.length c) l.length (Disk.bytes8 l) :=
  ⟨_, _, rfl, hc, fun h => (by cases h), .inr ⟨b, 0, rfl, hok, fun j u hu => by
    have hj : j < l.length := by have := (List.getElem?_eq_some_iff.1 hu).1; rwa [Disk.bytes8_len] at this
    rw [Nat.zero_add, h.cell hj, ← hu]
    simp [Disk.bytes8, hj]⟩⟩
section
variable {P : Program} {ops : Array Oper} {op : Oper} {rest : List Oper} {a : Act} {w : World} {Q : Exit → Act → World → Prop}
/-- []byte(s): a new block. -/
theorem step_str_mrow (hgd : Region.wanted op (yielded ops a.tmps) = true) (src dst : TypeId) (x : Operand) (ho : op.op = .convert src dst x) (hs : P.underlying src = some .string) (hd : P.underlying dst = some (.slice 5)) (he : P.underlying 5 = some (.int .u8)) (l : List Int) (hB : IsB l) (hx : a.eval x = .string (str l))
    (h : ∀ c w', l.length ≤ c → MRow w' w.heap.size l → Keeps (fun _ => False) w w' → wpList P ops Q rest (a.put op.dst (.slice (some ⟨w.heap.size, 0, none⟩) l.length c)) w') : wpList P ops Q (op :: rest) a w := by
  refine plain_ hgd fun K hK => ?_
  unfold Oper.wp execOp
  simp only [ho, hx, Sem.run_bind, run_bytes_of_string w src dst 5 (str l) hs hd he, Result.andThen_ok, Sem.run_pure]
  have hz := str_size l
  have hg := grownCap_ge w (str l).size 0 5
  generalize hc : grownCap w (str l).size 0 5 = c at *
  rw [hz] at hg ⊢
  refine hK _ _ (h _ _ (by omega) ⟨bytesRow (str l) c, ?_, ?_, ?_⟩ (((Keeps.refl _ w).drew).alloc _))
  · show (w.drew.heap.push _)[w.heap.size]? = _
    exact Array.getElem?_push_size
  · unfold bytesRow
    simp only [Array.size_append, Array.size_map, Array.size_replicate]
    have : (str l).data.size = l.length := hz
    omega
  · apply List.ext_getElem?
    intro j
    rw [List.getElem?_take]
    split
    · rename_i hj
      have hj2 : j < (str l).data.size := by have : (str l).data.size = l.length := hz; omega
      rw [Array.getElem?_toList, bytesRow_at _ _ _ hj2]
      rw [show Disk.bytes8 l = Go.Lib.strCells (str l) from (strCells_str hB).symm]
      simp only [Go.Lib.strCells, List.getElem?_map, Array.getElem?_toList]
      rw [Array.getElem?_eq_getElem hj2]
      rfl
    · rename_i hj
      rw [List.getElem?_eq_none (by rw [Disk.bytes8_len]; omega)]
/-- One byte of it is set. -/
theorem step_mset (hgd : Region.wanted op (yielded ops a.tmps) = true) (ty : TypeId) (x y : Operand) (ho : op.op = .store ty x y) (b k : Nat) (l : List Int) (v : Int)
    (hx : a.eval x = .pointer (some ⟨b, k, none⟩)) (hy : a.eval y = .int .u8 v) (hb : MRow w b l) (hl : k < l.length) (hi : (P.info? ty).map (·.size) = some 1)
    (h : ∀ w', MRow w' b (l.set k v) → Keeps (· = b) w w' → wpList P ops Q rest (a.put op.dst undef) w') : wpList P ops Q (op :: rest) a w := by
  refine plain_ hgd fun K hK => ?_
  have hcell := hb.cell hl
  obtain ⟨C, h1, h2, h3⟩ := hb
  have hfro : w.frozen? ⟨b, k, none⟩ = false := by
    unfold World.frozen?
    rw [h1]
    simp; omega
  unfold Oper.wp execOp
  have hr : (Instr.storeAt ty (.pointer (some ⟨b, k, none⟩)) (.int .u8 v)).run P w = .ok () (w.setCell ⟨b, k, none⟩ (.int .u8 v)) := by
    cases hq : P.info? ty with
    | none => simp [hq] at hi
    | some i =>
      have hs : i.size = 1 := by simpa [hq] using hi
      simp only [Instr.storeAt, Instr.sureAddr, Sem.run_bind, Sem.run_pure, Result.andThen_ok, Go.storeVar, Value.cells, Go.sizeOf, Go.typeInfo]
      simp only [Go.program, Sem.run, Result.andThen, hq]
      have hst : (Go.store ((⟨b, k, none⟩ : Addr).add 0) (.int .u8 v)).run P w = .ok () (w.setCell ⟨b, k, none⟩ (.int .u8 v)) := by
        rw [show (⟨b, k, none⟩ : Addr).add 0 = ⟨b, k, none⟩ from rfl, run_store P w _ _ _ rfl, hcell]
        simp [hfro]
      simp [hs, Go.storeCells, hst]
  simp only [ho, hx, hy, Sem.run_bind, hr, Result.andThen_ok, Sem.run_pure]
  refine hK _ _ (h _ ⟨C.setIfInBounds k (.int .u8 v), ?_, ?_, ?_⟩ ?_)
  · simp [World.setCell, Array.getElem?_modify, h1]
  · simpa using h2
  · rw [Array.toList_setIfInBounds, List.length_set, List.take_set, h3]
    unfold Disk.bytes8
    rw [List.map_set]
  · exact (Keeps.refl (fun x => x = b) w).setCell (p := ⟨b, k, none⟩) (fun _ => rfl) _
end
end Go.Proofs.Ytbiohidelhfaiaa
end

section
namespace Go.Proofs.Ytbiohidelhfaiaa
open Go.RowKit Go.Canon Go.Mem
open Go.Proofs.Ytbiohidelhfaiaa.Sto (Chg)
set_option linter.unusedVariables false
set_option linter.unusedSimpArgs false
set_option maxHeartbeats 6400000 in
set_option maxRecDepth 100000 in
theorem rcheck_c {w : World} {ok : Nat → Prop} (l : List Chg) (hB : ChgB l) (hl : l.length ≤ 1000000) (v : Value) (h : Chgs w ok v l) : Calls Try.prog 19 #[v] w (Rets (Still (.int .i64 (Sto.chk l)) w)) := by
  obtain ⟨A, c, rfl, hlc, _, _⟩ := id h
  have H := Lib.hid h
  have HB := Lib.hid hB
  clear h hB
  by_cases hbad : l.length = 0 ∨ 16 < l.length
  · have HZ := Lib.hid (show Sto.chk l = 2 by unfold Sto.chk; rw [if_pos hbad])
    rcases hbad with h0 | h0
    · have hq : l.length < 1 := by omega
      clear h0
      go_enter Try.func19, Try.ntmps19
      go_wp2
      go_ret
      exact ⟨by rw [HZ.out] <;> rfl, Keeps.refl _ _⟩
    · go_enter Try.func19, Try.ntmps19
      go_wp2
      go_ret
      exact ⟨by rw [HZ.out] <;> rfl, Keeps.refl _ _⟩
  · have HZ := Lib.hid (show Sto.chk l = Sto.chkGo [] l by unfold Sto.chk; rw [if_neg hbad])
    have hl1 : 1 ≤ l.length := by omega
    have hl2 : l.length ≤ 16 := by omega
    clear hbad
    go_enter Try.func19, Try.ntmps19
    go_wp2
    go_loopw [3] (fun i wr => ∃ k : Nat, k ≤ l.length ∧ i = .int .i64 k ∧ Keeps (fun _ => False) w wr ∧ Hid (Sto.chk l = Sto.chkGo (l.take k) (l.drop k))) (fun i _ => l.length - (intOf i).toNat)
    case atStart => exact ⟨0, Nat.zero_le _, rfl, Keeps.refl _ _, Lib.hid HZ.out⟩
    case round =>
      obtain ⟨k, hk, rfl, hkr, HF⟩ := hrel
      have HKr := Lib.hid hkr
      by_cases hlt : k < l.length
      · obtain ⟨A', c', e, _, _, hin⟩ := H.out
        cases e
        obtain ⟨b, o, e, hb, vV, c0, c1, c2, hrV⟩ := hin k _ (List.getElem?_eq_getElem hlt)
        cases e
        obtain ⟨Av, cv, rfl, _⟩ := hrV.slice
        obtain ⟨hb1, hb2, hb3, hb4⟩ := HB.out _ (List.getElem_mem hlt)
        have HF2 := Lib.hid (HF.out.trans (chkGo_next hlt))
        have HIn := Lib.hid (fun (ws : World) (K : Keeps (fun _ => False) w ws) (j : Nat) (hj : j < l.length) => (by
          obtain ⟨A2, c2, e, _, _, h4⟩ := H.out.kept K (fun _ _ h => h)
          cases e
          exact h4 j _ (List.getElem?_eq_getElem hj) : ∃ b' o', some (⟨b, o, none⟩ : Addr) = some ⟨b', o', none⟩ ∧ ok b' ∧ ChgCells ws ok b' (o' + j * 3) l[j]))
        generalize hd : l[k] = d at *
        have HDk := Lib.hid hd
        obtain ⟨key, del, val⟩ := d
        simp only at c0 c1 c2 hb1 hb2 hb3 hb4
        have HC0 := Lib.hid (fun (ws : World) (K : Keeps (fun _ => False) w ws) => K.cell c0 (fun h => h))
        have c0 := hkr.cell c0 (fun h => h)
        have c1 := hkr.cell c1 (fun h => h)
        have c2 := hkr.cell c2 (fun h => h)
        have HNm := Lib.hid (fun w => rkey_c key hb1 hb3 w)
        have HKy := Lib.hid hb1
        obtain ⟨sk, hsk⟩ : ∃ s, s = str key := ⟨_, rfl⟩
        have HSk := Lib.hid hsk
        rw [← hsk] at c0 HC0 HNm
        clear hin hrV HF hsk hb1 hb2 hd hkr
        by_cases hkf : Sto.keyF key = true
        · rw [hkf] at HNm
          by_cases hvb : 4096 < val.length
          · have HG := Lib.hid (show Sto.chk l = 5 by
              have h1 : Sto.chk1 (l.take k) ⟨key, del, val⟩ = 5 := by unfold Sto.chk1; rw [if_neg (by rw [hkf]; simp), if_pos hvb]
              rw [HF2.out, h1]; rfl)
            go_wp2_with (go_at_call 49; refine Rets.use (HNm.out _) ?_; rintro _ _ ⟨rfl, rfl⟩)
            go_ret
            exact ⟨by rw [HG.out] <;> rfl, HKr.out⟩
          · cases del with
            | true =>
              by_cases hv0 : 0 < val.length
              · have HG := Lib.hid (show Sto.chk l = 2 by
                  have h1 : Sto.chk1 (l.take k) ⟨key, true, val⟩ = 2 := by unfold Sto.chk1; rw [if_neg (by rw [hkf]; simp), if_neg hvb, if_pos ⟨rfl, hv0⟩]
                  rw [HF2.out, h1]; rfl)
                go_wp2_with (go_at_call 49; refine Rets.use (HNm.out _) ?_; rintro _ _ ⟨rfl, rfl⟩)
                go_ret
                exact ⟨by rw [HG.out] <;> rfl, HKr.out⟩
              · have HF3 := Lib.hid (show Sto.chk l = if ((l.take k).any fun a => decide (a.key = key)) = true then 10 else Sto.chkGo (l.take (k + 1)) (l.drop (k + 1)) by
                  have h1 : Sto.chk1 (l.take k) ⟨key, true, val⟩ = if ((l.take k).any fun a => decide (a.key = key)) = true then 10 else 0 := by unfold Sto.chk1; rw [if_neg (by rw [hkf]; simp), if_neg hvb, if_neg (fun h => hv0 h.2)]
                  rw [HF2.out, h1]
                  split <;> simp_all)
                go_wp2_with (go_at_call 49; refine Rets.use (HNm.out _) ?_; rintro _ _ ⟨rfl, rfl⟩)
                go_loopw [4] (fun i ws => ∃ j : Nat, j ≤ k ∧ i = .int .i64 j ∧ Keeps (fun _ => False) w ws ∧ Hid (((l.take j).any fun a => decide (a.key = key)) = false)) (fun i _ => k - (intOf i).toNat)
                case atStart => exact ⟨0, Nat.zero_le _, rfl, HKr.out, Lib.hid rfl⟩
                case round =>
                  clear c0 c1 c2
                  obtain ⟨j, hj, rfl, hkj, HM⟩ := hrel
                  have HKj := Lib.hid hkj
                  have c0 := HC0.out _ hkj
                  by_cases hjk : j < k
                  · have hjl : j < l.length := by omega
                    obtain ⟨b2, o2, e, _, vV2, e0, e1, e2, hr2⟩ := HIn.out _ hkj j hjl
                    cases e
                    have hB2 := (HB.out _ (List.getElem_mem hjl)).1
                    have HMn := Lib.hid (take_any (f := fun a => decide (a.key = key)) hjl)
                    have HMk := Lib.hid (fun h : l[j].key = key => (List.any_eq_true.2 ⟨l[j], by rw [List.mem_iff_getElem]; exact ⟨j, by rw [List.length_take]; omega, by rw [List.getElem_take]⟩, decide_eq_true h⟩ : ((l.take k).any fun a => decide (a.key = key)) = true))
                    have he := str_eq hB2 HKy.out
                    rw [← HSk.out] at he
                    generalize l[j] = g at *
                    obtain ⟨key2, del2, val2⟩ := g
                    simp only at e0 e1 e2 he HMn HMk
                    generalize str key2 = sk2 at *
                    clear hr2 hB2 hkj
                    by_cases hkk : key2 = key
                    · have HG := Lib.hid (show Sto.chk l = 10 by rw [HF3.out, if_pos (HMk.out hkk)])
                      rw [decide_eq_true hkk] at he
                      clear hkk
                      go_wp2
                      refine Canon.row [0, 1, 2, 3, 5, 6, 7, 8, 4, 9, 10] (by kernel_rfl) (by kernel_rfl) (by repeat (first | (with_reducible exact Safe.body) | (with_reducible apply Safe.then) | (with_reducible apply Safe.inBlock) | (dsimp +zetaDelta only))) ?_
                      have HKd := Lib.hid (HKj.out.drew)
                      simp only [Canon.pick, Canon.wpPlan, List.getElem?_toArray, List.getElem?_cons_zero, List.getElem?_cons_succ]
                      go_wp2
                      refine ⟨by rfl, trivial, ?_⟩
                      go_wp2
                      go_ret
                      exact ⟨by rw [HG.out] <;> rfl, HKd.out⟩
                    · have HM2 := Lib.hid (show ((l.take (j + 1)).any fun a => decide (a.key = key)) = false by rw [HMn.out, HM.out, decide_eq_false hkk]; rfl)
                      rw [decide_eq_false hkk] at he
                      clear hkk
                      go_wp2
                      refine Canon.row [0, 1, 2, 3, 5, 6, 7, 8, 4, 9, 10] (by kernel_rfl) (by kernel_rfl) (by repeat (first | (with_reducible exact Safe.body) | (with_reducible apply Safe.then) | (with_reducible apply Safe.inBlock) | (dsimp +zetaDelta only))) ?_
                      have HKd := Lib.hid (HKj.out.drew)
                      simp only [Canon.pick, Canon.wpPlan, List.getElem?_toArray, List.getElem?_cons_zero, List.getElem?_cons_succ]
                      go_wp2
                      refine ⟨by rfl, trivial, ?_⟩
                      go_wp2
                      go_roundw
                      case rel => exact ⟨j + 1, by omega, by go_num, HKd.out, HM2⟩
                      case measure => simp [intOf]; omega
                  · obtain rfl : j = k := by omega
                    have HF4 := Lib.hid (show Sto.chk l = Sto.chkGo (l.take (j + 1)) (l.drop (j + 1)) by rw [HF3.out, if_neg (by rw [HM.out]; simp)])
                    clear hkj
                    go_wp2
                    go_roundw
                    case rel => exact ⟨j + 1, by omega, by go_num, HKj.out, HF4⟩
                    case measure => simp [intOf]; omega
            | false =>
              have HF3 := Lib.hid (show Sto.chk l = if ((l.take k).any fun a => decide (a.key = key)) = true then 10 else Sto.chkGo (l.take (k + 1)) (l.drop (k + 1)) by
                have h1 : Sto.chk1 (l.take k) ⟨key, false, val⟩ = if ((l.take k).any fun a => decide (a.key = key)) = true then 10 else 0 := by unfold Sto.chk1; rw [if_neg (by rw [hkf]; simp), if_neg hvb, if_neg (fun h => by cases h.1)]
                rw [HF2.out, h1]
                split <;> simp_all)
              go_wp2_with (go_at_call 49; refine Rets.use (HNm.out _) ?_; rintro _ _ ⟨rfl, rfl⟩)
              go_loopw [4] (fun i ws => ∃ j : Nat, j ≤ k ∧ i = .int .i64 j ∧ Keeps (fun _ => False) w ws ∧ Hid (((l.take j).any fun a => decide (a.key = key)) = false)) (fun i _ => k - (intOf i).toNat)
              case atStart => exact ⟨0, Nat.zero_le _, rfl, HKr.out, Lib.hid rfl⟩
              case round =>
                clear c0 c1 c2
                obtain ⟨j, hj, rfl, hkj, HM⟩ := hrel
                have HKj := Lib.hid hkj
                have c0 := HC0.out _ hkj
                by_cases hjk : j < k
                · have hjl : j < l.length := by omega
                  obtain ⟨b2, o2, e, _, vV2, e0, e1, e2, hr2⟩ := HIn.out _ hkj j hjl
                  cases e
                  have hB2 := (HB.out _ (List.getElem_mem hjl)).1
                  have HMn := Lib.hid (take_any (f := fun a => decide (a.key = key)) hjl)
                  have HMk := Lib.hid (fun h : l[j].key = key => (List.any_eq_true.2 ⟨l[j], by rw [List.mem_iff_getElem]; exact ⟨j, by rw [List.length_take]; omega, by rw [List.getElem_take]⟩, decide_eq_true h⟩ : ((l.take k).any fun a => decide (a.key = key)) = true))
                  have he := str_eq hB2 HKy.out
                  rw [← HSk.out] at he
                  generalize l[j] = g at *
                  obtain ⟨key2, del2, val2⟩ := g
                  simp only at e0 e1 e2 he HMn HMk
                  generalize str key2 = sk2 at *
                  clear hr2 hB2 hkj
                  by_cases hkk : key2 = key
                  · have HG := Lib.hid (show Sto.chk l = 10 by rw [HF3.out, if_pos (HMk.out hkk)])
                    rw [decide_eq_true hkk] at he
                    clear hkk
                    go_wp2
                    refine Canon.row [0, 1, 2, 3, 5, 6, 7, 8, 4, 9, 10] (by kernel_rfl) (by kernel_rfl) (by repeat (first | (with_reducible exact Safe.body) | (with_reducible apply Safe.then) | (with_reducible apply Safe.inBlock) | (dsimp +zetaDelta only))) ?_
                    have HKd := Lib.hid (HKj.out.drew)
                    simp only [Canon.pick, Canon.wpPlan, List.getElem?_toArray, List.getElem?_cons_zero, List.getElem?_cons_succ]
                    go_wp2
                    refine ⟨by rfl, trivial, ?_⟩
                    go_wp2
                    go_ret
                    exact ⟨by rw [HG.out] <;> rfl, HKd.out⟩
                  · have HM2 := Lib.hid (show ((l.take (j + 1)).any fun a => decide (a.key = key)) = false by rw [HMn.out, HM.out, decide_eq_false hkk]; rfl)
                    rw [decide_eq_false hkk] at he
                    clear hkk
                    go_wp2
                    refine Canon.row [0, 1, 2, 3, 5, 6, 7, 8, 4, 9, 10] (by kernel_rfl) (by kernel_rfl) (by repeat (first | (with_reducible exact Safe.body) | (with_reducible apply Safe.then) | (with_reducible apply Safe.inBlock) | (dsimp +zetaDelta only))) ?_
                    have HKd := Lib.hid (HKj.out.drew)
                    simp only [Canon.pick, Canon.wpPlan, List.getElem?_toArray, List.getElem?_cons_zero, List.getElem?_cons_succ]
                    go_wp2
                    refine ⟨by rfl, trivial, ?_⟩
                    go_wp2
                    go_roundw
                    case rel => exact ⟨j + 1, by omega, by go_num, HKd.out, HM2⟩
                    case measure => simp [intOf]; omega
                · obtain rfl : j = k := by omega
                  have HF4 := Lib.hid (show Sto.chk l = Sto.chkGo (l.take (j + 1)) (l.drop (j + 1)) by rw [HF3.out, if_neg (by rw [HM.out]; simp)])
                  clear hkj
                  go_wp2
                  go_roundw
                  case rel => exact ⟨j + 1, by omega, by go_num, HKj.out, HF4⟩
                  case measure => simp [intOf]; omega
        · have hkf : Sto.keyF key = false := by simpa using hkf
          rw [hkf] at HNm
          have HG := Lib.hid (show Sto.chk l = 2 by
            have h1 : Sto.chk1 (l.take k) ⟨key, del, val⟩ = 2 := by unfold Sto.chk1; rw [if_pos hkf]
            rw [HF2.out, h1]; rfl)
          go_wp2_with (go_at_call 49; refine Rets.use (HNm.out _) ?_; rintro _ _ ⟨rfl, rfl⟩)
          go_ret
          exact ⟨by rw [HG.out] <;> rfl, HKr.out⟩
      · obtain rfl : k = l.length := by omega
        have HG := Lib.hid (show Sto.chk l = 0 by rw [HF.out, List.drop_length]; rfl)
        clear hkr
        go_wp2
        go_ret
        exact ⟨by rw [HG.out] <;> rfl, HKr.out⟩
set_option maxHeartbeats 1600000 in
theorem rcounted_c {w : World} {ok : Nat → Prop} (v : Value) (b : List Int) (hr : Rd w ok v b.length (Disk.bytes8 b)) (hl : b.length ≤ 1000000) : Calls Try.prog 42 #[v] w (Rets fun v' w' => Out w w' v' (Sto.counted b)) := by
  obtain ⟨A, c, rfl, _⟩ := hr.slice
  have HR := Lib.hid hr
  have HV := Lib.hid (fun w => rvar_c 9 b.length (by omega) (by omega) (by omega) w)
  have hvn := varF_len b.length
  clear hr
  go_enter Try.func42, Try.ntmps42
  go_wp2_with (first
    | (go_at_call 41; refine Rets.use (HV.out _) ?_; rintro v2 w2 hO2)
    | ((with_reducible refine at_ 8 rfl ?_); go_must (refine out_rd (W := w) rfl _ _ rfl v2 (Sto.varF b.length) rfl hO2 (.slice A b.length c) _ b rfl (HR.out.kept hO2.2 (fun _ _ h => h)) rfl (by omega) ?_); intro v3 w3 hO3 hk3))
  go_ret
  exact hO3
set_option maxHeartbeats 6400000 in
set_option maxRecDepth 100000 in
theorem alike_c {w : World} {ok ok2 : Nat → Prop} (a b : List Chg) (hA : ChgB a) (hB : ChgB b) (ha1 : a.length ≤ 1000000) (hb1 : b.length ≤ 1000000) (va vb : Value) (ha : Chgs w ok va a) (hb : Chgs w ok2 vb b) : Calls Try.prog 17 #[va, vb] w (Rets (Still (.bool (decide (a = b))) w)) := by
  obtain ⟨A, c, rfl, hlc, _, _⟩ := id ha
  obtain ⟨A2, c2, rfl, hlc2, _, _⟩ := id hb
  have H := Lib.hid ha
  have H2 := Lib.hid hb
  have HA := Lib.hid hA
  have HB := Lib.hid hB
  clear ha hb hA hB
  by_cases hn : a.length = b.length
  · have hq : ((a.length : Int) != b.length) = false := by rw [hn]; simp
    have HN := Lib.hid hn
    have hle : a.length ≤ b.length := by omega
    clear hn
    go_enter Try.func17, Try.ntmps17
    go_wp2
    go_loopw [5] (fun i wr => ∃ k : Nat, k ≤ a.length ∧ i = .int .i64 k ∧ Keeps (fun _ => False) w wr ∧ Hid (a.take k = b.take k)) (fun i _ => a.length - (intOf i).toNat)
    case atStart => exact ⟨0, Nat.zero_le _, rfl, Keeps.refl _ _, Lib.hid rfl⟩
    case round =>
      obtain ⟨k, hk, rfl, hkr, HF⟩ := hrel
      have HKr := Lib.hid hkr
      by_cases hlt : k < a.length
      · have hlt2 : k < b.length := by omega
        have H' := Lib.hid (H.out.kept hkr (fun _ _ h => h))
        have H2' := Lib.hid (H2.out.kept hkr (fun _ _ h => h))
        obtain ⟨A', c', e, _, _, hin⟩ := H'.out
        cases e
        obtain ⟨g, o, e, _, vV, c0, c1, c2, hrV⟩ := hin k _ (List.getElem?_eq_getElem hlt)
        cases e
        obtain ⟨A2', c2', e, _, _, hin2⟩ := H2'.out
        cases e
        obtain ⟨g2, o2, e, _, vV2, d0, d1, d2, hrV2⟩ := hin2 k _ (List.getElem?_eq_getElem hlt2)
        cases e
        obtain ⟨Av, cv, rfl, _⟩ := hrV.slice
        obtain ⟨Av2, cv2, rfl, _⟩ := hrV2.slice
        obtain ⟨x1, x2, x3, x4⟩ := HA.out _ (List.getElem_mem hlt)
        obtain ⟨y1, y2, y3, y4⟩ := HB.out _ (List.getElem_mem hlt2)
        have HNx := Lib.hid (show (a.take (k + 1) = a.take k ++ [a[k]]) ∧ (b.take (k + 1) = b.take k ++ [b[k]]) from ⟨by rw [List.take_add_one, List.getElem?_eq_getElem hlt]; rfl, by rw [List.take_add_one, List.getElem?_eq_getElem hlt2]; rfl⟩)
        have HNe := Lib.hid (show a[k] ≠ b[k] → decide (a = b) = false from fun h => decide_eq_false (fun e => h (by subst e; rfl)))
        have hse := str_eq x1 y1
        have HRV := Lib.hid hrV
        have HRV2 := Lib.hid hrV2
        clear hin hin2 hrV hrV2 hkr
        generalize a[k] = d at *
        generalize b[k] = f at *
        obtain ⟨key, del, val⟩ := d
        obtain ⟨key2, del2, val2⟩ := f
        simp only at c0 c1 c2 d0 d1 d2 x1 x2 x3 x4 y1 y2 y3 y4 HRV HRV2 hse
        have hsn : ((str key).toList != (str key2).toList) = !decide (key = key2) := by rw [bne, hse]
        generalize str key = sk at *
        generalize str key2 = sk2 at *
        clear x1 y1
        by_cases hkk : key = key2
        · by_cases hdd : del = del2
          · by_cases hvv : val = val2
            · have HF2 := Lib.hid (show a.take (k + 1) = b.take (k + 1) by rw [HNx.out.1, HNx.out.2, HF.out, hkk, hdd, hvv])
              have HSm := Lib.hid (fun (w' : World) (K : Keeps (fun _ => False) wr w') => same_c _ _ val val2 (HRV.out.kept K (fun _ _ h => h)) (HRV2.out.kept K (fun _ _ h => h)) (by omega))
              rw [decide_eq_true hvv] at HSm
              rw [decide_eq_true hkk] at hse hsn
              subst hdd
              clear hkk hvv
              go_wp2
              refine Canon.row [0, 1, 2, 3, 5, 6, 7, 8, 4, 9, 10, 11, 12, 13, 14, 15, 17, 18, 19, 20, 16, 21, 22, 23, 24, 25, 26, 27, 28, 30, 31, 32, 33, 29, 34, 35, 36, 37] (by kernel_rfl) (by kernel_rfl) (by repeat (first | (with_reducible exact Safe.body) | (with_reducible apply Safe.then) | (with_reducible apply Safe.inBlock) | (dsimp +zetaDelta only))) ?_
              simp only [Canon.pick, Canon.wpPlan, List.getElem?_toArray, List.getElem?_cons_zero, List.getElem?_cons_succ]
              have KD : Keeps (fun _ => False) wr wr.drew := (Keeps.refl _ wr).drew
              go_wp2_with (go_at_call 16; refine Rets.use (HSm.out _ KD) ?_; rintro _ w9 ⟨rfl, hk9⟩)
              have HK9 := Lib.hid ((HKr.out.trans KD (fun _ _ h => h)).trans hk9 (fun _ _ h => h))
              refine ⟨by rfl, trivial, ?_⟩
              go_wp2
              go_roundw
              case rel => exact ⟨k + 1, by omega, by go_num, HK9.out, HF2⟩
              case measure => simp [intOf]; omega
            · have HG := Lib.hid (HNe.out (fun e => hvv (by simp only [Chg.mk.injEq] at e; exact e.2.2)))
              have HSm := Lib.hid (fun (w' : World) (K : Keeps (fun _ => False) wr w') => same_c _ _ val val2 (HRV.out.kept K (fun _ _ h => h)) (HRV2.out.kept K (fun _ _ h => h)) (by omega))
              rw [decide_eq_false hvv] at HSm
              rw [decide_eq_true hkk] at hse hsn
              subst hdd
              clear hkk hvv
              go_wp2
              refine Canon.row [0, 1, 2, 3, 5, 6, 7, 8, 4, 9, 10, 11, 12, 13, 14, 15, 17, 18, 19, 20, 16, 21, 22, 23, 24, 25, 26, 27, 28, 30, 31, 32, 33, 29, 34, 35, 36, 37] (by kernel_rfl) (by kernel_rfl) (by repeat (first | (with_reducible exact Safe.body) | (with_reducible apply Safe.then) | (with_reducible apply Safe.inBlock) | (dsimp +zetaDelta only))) ?_
              simp only [Canon.pick, Canon.wpPlan, List.getElem?_toArray, List.getElem?_cons_zero, List.getElem?_cons_succ]
              have KD : Keeps (fun _ => False) wr wr.drew := (Keeps.refl _ wr).drew
              go_wp2_with (go_at_call 16; refine Rets.use (HSm.out _ KD) ?_; rintro _ w9 ⟨rfl, hk9⟩)
              have HK9 := Lib.hid ((HKr.out.trans KD (fun _ _ h => h)).trans hk9 (fun _ _ h => h))
              refine ⟨by rfl, trivial, ?_⟩
              go_wp2
              go_ret
              exact ⟨by rw [HG.out] <;> rfl, HK9.out⟩
          · have HG := Lib.hid (HNe.out (fun e => hdd (by simp only [Chg.mk.injEq] at e; exact e.2.1)))
            rw [decide_eq_true hkk] at hse hsn
            clear hkk
            rcases del with _ | _ <;> rcases del2 with _ | _
            · exact (hdd rfl).elim
            · clear hdd
              go_wp2
              refine Canon.row [0, 1, 2, 3, 5, 6, 7, 8, 4, 9, 10, 11, 12, 13, 14, 15, 17, 18, 19, 20, 16, 21, 22, 23, 24, 25, 26, 27, 28, 30, 31, 32, 33, 29, 34, 35, 36, 37] (by kernel_rfl) (by kernel_rfl) (by repeat (first | (with_reducible exact Safe.body) | (with_reducible apply Safe.then) | (with_reducible apply Safe.inBlock) | (dsimp +zetaDelta only))) ?_
              simp only [Canon.pick, Canon.wpPlan, List.getElem?_toArray, List.getElem?_cons_zero, List.getElem?_cons_succ]
              have HK9 := Lib.hid (HKr.out.trans ((Keeps.refl (fun _ => False) wr).drew) (fun _ _ h => h))
              go_wp2
              refine ⟨by rfl, trivial, ?_⟩
              go_wp2
              go_ret
              exact ⟨by rw [HG.out] <;> rfl, HK9.out⟩
            · clear hdd
              go_wp2
              refine Canon.row [0, 1, 2, 3, 5, 6, 7, 8, 4, 9, 10, 11, 12, 13, 14, 15, 17, 18, 19, 20, 16, 21, 22, 23, 24, 25, 26, 27, 28, 30, 31, 32, 33, 29, 34, 35, 36, 37] (by kernel_rfl) (by kernel_rfl) (by repeat (first | (with_reducible exact Safe.body) | (with_reducible apply Safe.then) | (with_reducible apply Safe.inBlock) | (dsimp +zetaDelta only))) ?_
              simp only [Canon.pick, Canon.wpPlan, List.getElem?_toArray, List.getElem?_cons_zero, List.getElem?_cons_succ]
              have HK9 := Lib.hid (HKr.out.trans ((Keeps.refl (fun _ => False) wr).drew) (fun _ _ h => h))
              go_wp2
              refine ⟨by rfl, trivial, ?_⟩
              go_wp2
              go_ret
              exact ⟨by rw [HG.out] <;> rfl, HK9.out⟩
            · exact (hdd rfl).elim
        · have HG := Lib.hid (HNe.out (fun e => hkk (by simp only [Chg.mk.injEq] at e; exact e.1)))
          rw [decide_eq_false hkk] at hse hsn
          clear hkk
          go_wp2
          refine Canon.row [0, 1, 2, 3, 5, 6, 7, 8, 4, 9, 10, 11, 12, 13, 14, 15, 17, 18, 19, 20, 16, 21, 22, 23, 24, 25, 26, 27, 28, 30, 31, 32, 33, 29, 34, 35, 36, 37] (by kernel_rfl) (by kernel_rfl) (by repeat (first | (with_reducible exact Safe.body) | (with_reducible apply Safe.then) | (with_reducible apply Safe.inBlock) | (dsimp +zetaDelta only))) ?_
          simp only [Canon.pick, Canon.wpPlan, List.getElem?_toArray, List.getElem?_cons_zero, List.getElem?_cons_succ]
          have HK9 := Lib.hid (HKr.out.trans ((Keeps.refl (fun _ => False) wr).drew) (fun _ _ h => h))
          go_wp2
          refine ⟨by rfl, trivial, ?_⟩
          go_wp2
          go_ret
          exact ⟨by rw [HG.out] <;> rfl, HK9.out⟩
      · obtain rfl : k = a.length := by omega
        have HG := Lib.hid (show decide (a = b) = true from decide_eq_true (by have := HF.out; rw [List.take_length, HN.out, List.take_length] at this; exact this))
        clear hkr
        go_wp2
        go_ret
        exact ⟨by rw [HG.out] <;> rfl, HKr.out⟩
  · have hq : ((a.length : Int) != b.length) = true := by simp; omega
    have HG := Lib.hid (show decide (a = b) = false from decide_eq_false (fun e => hn (by rw [e])))
    go_enter Try.func17, Try.ntmps17
    go_wp2
    go_ret
    exact ⟨by rw [HG.out] <;> rfl, Keeps.refl _ _⟩
end Go.Proofs.Ytbiohidelhfaiaa
end

section
namespace Go.Proofs.Ytbiohidelhfaiaa
open Go.RowKit Go.Canon Go.Mem
set_option linter.unusedVariables false
set_option linter.unusedSimpArgs false
/-- A number out of its bytes, the lowest first. -/
def hor : List Int → Nat
  | [] => 0
  | c :: r => c.toNat % 128 + 128 * hor r
theorem hor_snoc (l : List Int) (c : Int) : hor (l ++ [c]) = hor l + c.toNat % 128 * 128 ^ l.length := by
  induction l with
  | nil => simp [hor]
  | cons d l ih =>
    rw [List.cons_append, hor, hor, ih, List.length_cons, Nat.pow_succ]
    generalize c.toNat % 128 = z
    generalize (128 : Nat) ^ l.length = p
    rw [Nat.mul_add, ← Nat.add_assoc]
    congr 1
    rw [Nat.mul_comm 128, Nat.mul_assoc]
theorem hor_drop (l : List Int) (j : Nat) (h : j < l.length) : hor (l.drop j) = l[j].toNat % 128 + 128 * hor (l.drop (j + 1)) := by
  rw [List.drop_eq_getElem_cons h, hor]
theorem hor_le (l : List Int) (j : Nat) : hor (l.drop j) ≤ hor l := by
  induction l generalizing j with
  | nil => simp
  | cons c l ih =>
    cases j with
    | zero => exact Nat.le_refl _
    | succ j =>
      rw [List.drop_succ_cons, hor]
      have := ih j
      omega
set_option maxHeartbeats 3200000 in
set_option maxRecDepth 100000 in
theorem rrdvar_c {ok : Nat → Prop} {w : World} (v : Value) (l : List Int) (hr : Rd w ok v l.length (Disk.bytes8 l)) (hB : IsB l) (hl : l.length ≤ 1000000) : Calls Try.prog 66 #[v] w (Rets (Only (.tuple #[.int .u64 (Sto.rdF l).1, .int .i64 (Sto.rdF l).2.1, .int .i64 (Sto.rdF l).2.2]) w)) := by
  obtain ⟨A, c, rfl, _⟩ := hr.slice
  have HR := Lib.hid hr
  have HB := Lib.hid hB
  have HLt := Lib.hid (rdF_lt l hB)
  clear hr hB
  go_enter Try.func66, Try.ntmps66
  go_wp2
  go_loopw [5] (fun iv wr => ∃ k : Nat, iv = .int .i64 ((k : Int) + 1) ∧ k ≤ l.length ∧ k ≤ 9 ∧ wr = w ∧ Hid (Sto.rdF l = Sto.rdGo (l.drop k) k (hor (l.take k)))) (fun iv _ => l.length + 1 - (intOf iv).toNat)
  case atStart => exact ⟨0, rfl, Nat.zero_le _, by decide, rfl, rfl⟩
  case round =>
    obtain ⟨k, rfl, hk, hk9, rfl, HF⟩ := hrel
    by_cases hlt : k < l.length
    · obtain ⟨b, o, c', e, _, hbW, hcell⟩ := HR.out.at (by intro e; have := congrArg List.length e; rw [Disk.bytes8_len, List.length_nil] at this; omega)
      cases e
      have cx : wr.cell? ⟨b, o + k, none⟩ = some (.int .u8 l[k]) := hcell k _ (by simp [Disk.bytes8, hlt])
      have hb := HB.out _ (List.getElem_mem hlt)
      have HF2 := Lib.hid (show Sto.rdF l = Sto.rdGo (l[k] :: l.drop (k + 1)) k (hor (l.take k)) by rw [HF.out, List.drop_eq_getElem_cons hlt])
      have HS := Lib.hid (show hor (l.take (k + 1)) = hor (l.take k) + l[k].toNat % 128 * 128 ^ k by
        have := hor_snoc (l.take k) l[k]
        rw [List.length_take, Nat.min_eq_left hk] at this
        rw [← this, List.take_add_one, List.getElem?_eq_getElem hlt]; rfl)
      have HCe := Lib.hid hcell
      clear hcell
      generalize l[k] = y at *
      by_cases hf : k = 9 ∧ 1 < y
      · obtain ⟨rfl, hy1⟩ := hf
        have HE := Lib.hid (show Sto.rdF l = (0, 0, 4) by rw [HF2.out, Sto.rdGo, if_pos ⟨rfl, hy1⟩])
        go_wp2
        go_ret3
        rw [HE.out]
        exact ⟨rfl, rfl⟩
      · by_cases hy : y < 128
        · by_cases hz : y = 0 ∧ 0 < k
          · obtain ⟨rfl, hk0⟩ := hz
            have HE := Lib.hid (show Sto.rdF l = (0, 0, 4) by rw [HF2.out, Sto.rdGo, if_neg hf, if_pos hy, if_pos ⟨rfl, hk0⟩])
            have hk0 : (0 : Int) < k := by omega
            by_cases h9 : k = 9
            · subst h9
              go_wp2
              go_ret3
              rw [HE.out]
              exact ⟨rfl, rfl⟩
            · have hq : (((k : Int) + 1) == 10) = false := by rw [beq_eq_false_iff_ne]; omega
              go_wp2
              go_ret3
              rw [HE.out]
              exact ⟨rfl, rfl⟩
          · have HE := Lib.hid (show Sto.rdF l = (hor (l.take (k + 1)), k + 1, 0) by rw [HF2.out, Sto.rdGo, if_neg hf, if_pos hy, if_neg hz, HS.out, show y.toNat % 128 = y.toNat by omega])
            have HTl := Lib.hid (show (l.take (k + 1)).length = k + 1 by rw [List.length_take]; omega)
            have hlt2 : hor (l.take (k + 1)) < 18446744073709551616 := by have := HLt.out; rw [HE.out] at this; exact this
            have hq2 : (k = 9 → y ≤ 1) ∧ (y = 0 → k = 0) := ⟨fun h => by rcases Int.lt_or_le 1 y with h3 | h3; exact (hf ⟨h, h3⟩).elim; exact h3, fun h => by rcases Nat.eq_zero_or_pos k with h3 | h3; exact h3; exact (hz ⟨h, h3⟩).elim⟩
            have hg : Hid (∀ j, j < k + 1 → ∃ z : Int, 0 ≤ z ∧ z < 256 ∧ wr.cell? ⟨b, o + j, none⟩ = some (.int .u8 z) ∧ hor ((l.take (k + 1)).drop j) = z.toNat % 128 + 128 * hor ((l.take (k + 1)).drop (j + 1))) := by
              refine Lib.hid fun j hj => ⟨l[j], (HB.out _ (List.getElem_mem (by omega))).1, (HB.out _ (List.getElem_mem (by omega))).2, HCe.out j _ (by simp [Disk.bytes8, show j < l.length by omega]), ?_⟩
              rw [hor_drop _ j (by rw [HTl.out]; exact hj), List.getElem_take]
            have HD0 := Lib.hid (show hor ((l.take (k + 1)).drop (k + 1)) = 0 by rw [List.drop_eq_nil_of_le (by rw [HTl.out]; exact Nat.le_refl _)]; rfl)
            have HLe := Lib.hid (hor_le (l.take (k + 1)))
            have HE2 := Lib.hid (show Sto.rdF l = (hor ((l.take (k + 1)).drop 0), k + 1, 0) by rw [HE.out]; rfl)
            generalize l.take (k + 1) = t at *
            clear HE HF2 HF HS HTl HCe
            by_cases hy0 : y = 0
            · have hk0 := hq2.2 hy0
              clear hq2 hf hz
              subst hk0
              subst hy0
              have cx' : wr.cell? ⟨b, o, none⟩ = some (.int .u8 0) := cx
              go_wp2
              go_loopw [7, 8] (fun xv jv ws => ∃ j : Nat, jv = .int .i64 ((j : Int) - 1) ∧ j ≤ 0 + 1 ∧ xv = .int .u64 (hor (t.drop j)) ∧ ws = wr) (fun _ jv _ => (intOf jv + 1).toNat)
              case atStart => exact ⟨0 + 1, by go_num, Nat.le_refl _, by rw [HD0.out]; rfl, rfl⟩
              case round =>
                rename_i wr'
                obtain ⟨j, rfl, hj, rfl, rfl⟩ := hrel
                cases j with
                | zero =>
                  go_wp2
                  go_ret3
                  rw [HE2.out]
                  exact ⟨rfl, rfl⟩
                | succ j =>
                  obtain ⟨z, hz0, hz1, cz, HZ⟩ := hg.out j (by omega)
                  have hle := HLe.out j
                  have HZ2 := Lib.hid HZ
                  generalize hor (t.drop (j + 1)) = X at *
                  have hX : 128 * X + z.toNat % 128 < 18446744073709551616 := by rw [HZ] at hle; omega
                  clear HZ
                  go_wp2
                  go_roundw
                  case rel => exact ⟨j, by go_num, by omega, by rw [HZ2.out]; go_num, by trivial⟩
                  case measure => simp [intOf] <;> omega
            · have hq0 : (y == 0) = false := by rw [beq_eq_false_iff_ne]; exact hy0
              rcases Nat.eq_zero_or_pos k with hk0 | hk0
              · clear hq2 hf hz
                subst hk0
                have cx' : wr.cell? ⟨b, o, none⟩ = some (.int .u8 y) := cx
                go_wp2
                go_loopw [7, 8] (fun xv jv ws => ∃ j : Nat, jv = .int .i64 ((j : Int) - 1) ∧ j ≤ 0 + 1 ∧ xv = .int .u64 (hor (t.drop j)) ∧ ws = wr) (fun _ jv _ => (intOf jv + 1).toNat)
                case atStart => exact ⟨0 + 1, by go_num, Nat.le_refl _, by rw [HD0.out]; rfl, rfl⟩
                case round =>
                  rename_i wr'
                  obtain ⟨j, rfl, hj, rfl, rfl⟩ := hrel
                  cases j with
                  | zero =>
                    go_wp2
                    go_ret3
                    rw [HE2.out]
                    exact ⟨rfl, rfl⟩
                  | succ j =>
                    obtain ⟨z, hz0, hz1, cz, HZ⟩ := hg.out j (by omega)
                    have hle := HLe.out j
                    have HZ2 := Lib.hid HZ
                    generalize hor (t.drop (j + 1)) = X at *
                    have hX : 128 * X + z.toNat % 128 < 18446744073709551616 := by rw [HZ] at hle; omega
                    clear HZ
                    go_wp2
                    go_roundw
                    case rel => exact ⟨j, by go_num, by omega, by rw [HZ2.out]; go_num, by trivial⟩
                    case measure => simp [intOf] <;> omega
              · by_cases h9 : k = 9
                · have hy1 := hq2.1 h9
                  clear hq2 hf hz
                  subst h9
                  go_wp2
                  go_loopw [7, 8] (fun xv jv ws => ∃ j : Nat, jv = .int .i64 ((j : Int) - 1) ∧ j ≤ 9 + 1 ∧ xv = .int .u64 (hor (t.drop j)) ∧ ws = wr) (fun _ jv _ => (intOf jv + 1).toNat)
                  case atStart => exact ⟨9 + 1, by go_num, Nat.le_refl _, by rw [HD0.out]; rfl, rfl⟩
                  case round =>
                    rename_i wr'
                    obtain ⟨j, rfl, hj, rfl, rfl⟩ := hrel
                    cases j with
                    | zero =>
                      go_wp2
                      go_ret3
                      rw [HE2.out]
                      exact ⟨rfl, rfl⟩
                    | succ j =>
                      obtain ⟨z, hz0, hz1, cz, HZ⟩ := hg.out j (by omega)
                      have hle := HLe.out j
                      have HZ2 := Lib.hid HZ
                      generalize hor (t.drop (j + 1)) = X at *
                      have hX : 128 * X + z.toNat % 128 < 18446744073709551616 := by rw [HZ] at hle; omega
                      clear HZ
                      go_wp2
                      go_roundw
                      case rel => exact ⟨j, by go_num, by omega, by rw [HZ2.out]; go_num, by trivial⟩
                      case measure => simp [intOf] <;> omega
                · have hq : (((k : Int) + 1) == 10) = false := by rw [beq_eq_false_iff_ne]; omega
                  clear hq2 hf hz
                  go_wp2
                  go_loopw [7, 8] (fun xv jv ws => ∃ j : Nat, jv = .int .i64 ((j : Int) - 1) ∧ j ≤ k + 1 ∧ xv = .int .u64 (hor (t.drop j)) ∧ ws = wr) (fun _ jv _ => (intOf jv + 1).toNat)
                  case atStart => exact ⟨k + 1, by go_num, Nat.le_refl _, by rw [HD0.out]; rfl, rfl⟩
                  case round =>
                    rename_i wr'
                    obtain ⟨j, rfl, hj, rfl, rfl⟩ := hrel
                    cases j with
                    | zero =>
                      go_wp2
                      go_ret3
                      rw [HE2.out]
                      exact ⟨rfl, rfl⟩
                    | succ j =>
                      obtain ⟨z, hz0, hz1, cz, HZ⟩ := hg.out j (by omega)
                      have hle := HLe.out j
                      have HZ2 := Lib.hid HZ
                      generalize hor (t.drop (j + 1)) = X at *
                      have hX : 128 * X + z.toNat % 128 < 18446744073709551616 := by rw [HZ] at hle; omega
                      clear HZ
                      go_wp2
                      go_roundw
                      case rel => exact ⟨j, by go_num, by omega, by rw [HZ2.out]; go_num, by trivial⟩
                      case measure => simp [intOf] <;> omega
        · have HE := Lib.hid (show Sto.rdF l = Sto.rdGo (l.drop (k + 1)) (k + 1) (hor (l.take (k + 1))) by rw [HF2.out, Sto.rdGo, if_neg hf, if_neg hy, HS.out, show y.toNat % 128 = y.toNat - 128 by omega])
          have hn : k < 9 := by omega
          have hq : (((k : Int) + 1) == 10) = false := by rw [beq_eq_false_iff_ne]; omega
          have hq0 : (y == 0) = false := by rw [beq_eq_false_iff_ne]; omega
          go_wp2
          all_goals
            go_roundw
            case rel => exact ⟨k + 1, by go_num, hlt, by omega, by trivial, HE⟩
            case measure => simp [intOf]; omega
    · obtain rfl : k = l.length := by omega
      have HE := Lib.hid (show Sto.rdF l = (0, 0, 3) by rw [HF.out, List.drop_length]; rfl)
      go_wp2
      go_ret3
      rw [HE.out]
      exact ⟨rfl, rfl⟩
end Go.Proofs.Ytbiohidelhfaiaa
end

section
namespace Go.Proofs.Ytbiohidelhfaiaa
open Go.RowKit Go.Canon Go.Mem
open Go.Proofs.Ytbiohidelhfaiaa.Sto (Chg)
set_option linter.unusedVariables false
set_option linter.unusedSimpArgs false
theorem under_rb : Try.prog.underlying 23 = some (.slice 5) := by kernel_rfl
theorem under_rs : Try.prog.underlying 9 = some .string := by kernel_rfl
theorem under_ru : Try.prog.underlying 5 = some (.int .u8) := by kernel_rfl
theorem info_ri : (Try.prog.info? 3).map (·.size) = some 1 := by kernel_rfl
theorem info_ro : (Try.prog.info? 4).map (·.size) = some 1 := by kernel_rfl
theorem counted_len (k : List Int) : (Sto.counted k).length ≤ k.length + 10 := by unfold Sto.counted; rw [List.length_append]; have := varF_len k.length; omega
set_option maxHeartbeats 6400000 in
set_option maxRecDepth 100000 in
theorem rencode_c {w : World} {ok : Nat → Prop} (l : List Chg) (hB : ChgB l) (hl : l.length ≤ 1000000) (v : Value) (h : Chgs w ok v l) (hok : ∀ k, ok k → k < w.heap.size) : Calls Try.prog 13 #[v] w (Rets (TwoIs w (Sto.enc l))) := by
  obtain ⟨A, c, rfl, hlc, _, _⟩ := id h
  have H := Lib.hid h
  have HB := Lib.hid hB
  have HCk := Lib.hid (rcheck_c l hB hl _ h)
  by_cases hz : Sto.chk l = 0
  · have HZ := Lib.hid (show Sto.enc l = (Sto.encL l, 0) by unfold Sto.enc; rw [if_neg (fun h => h hz)])
    rw [hz] at HCk
    obtain ⟨hg, hl1, hl2⟩ := Sto.chk_good hz
    have HG := Lib.hid hg
    have HV := Lib.hid (fun w => rvar_c 9 l.length (by omega) (by omega) (by omega) w)
    have hvn := varF_len l.length
    clear h hB hz hg
    go_enter Try.func13, Try.ntmps13
    go_wp2_with (first
      | (go_at_call 19; refine Rets.use HCk.out ?_; rintro _ w1 ⟨rfl, hk1⟩)
      | (go_at_call 41; refine Rets.use (HV.out _) ?_; rintro v2 w2 hO2))
    have HO2 := Lib.hid (show Out w w2 v2 (Sto.varF l.length) from ⟨hO2.1.mono (ok' := fun j => w.heap.size ≤ j) (fun j _ h => by have := hk1.size; omega), hk1.trans hO2.2 (fun _ _ h => h)⟩)
    clear hO2 hk1
    go_loopw [5, 6] (fun ov i wr => ∃ k : Nat, k ≤ l.length ∧ i = .int .i64 k ∧ Out w wr ov (Sto.varF l.length ++ (l.take k).flatMap Sto.enc1)) (fun _ i _ => l.length - (intOf i).toNat)
    case atStart => exact ⟨0, Nat.zero_le _, rfl, by have := HO2.out; simpa using this⟩
    case round =>
      obtain ⟨k, hk, rfl, hO⟩ := hrel
      have hkr := hO.2
      have hel := encs_len (l.take k) (fun c hc => ⟨(HG.out c (List.mem_of_mem_take hc)).2.1, (HG.out c (List.mem_of_mem_take hc)).2.2⟩)
      rw [List.length_take] at hel
      by_cases hlt : k < l.length
      · obtain ⟨A', c', e, _, _, hin⟩ := H.out
        cases e
        obtain ⟨b, o, e, hb, vV, c0, c1, c2, hrV⟩ := hin k _ (List.getElem?_eq_getElem hlt)
        cases e
        obtain ⟨Av, cv, rfl, _⟩ := hrV.slice
        obtain ⟨hb1, hb2, hb3, hb4⟩ := HB.out _ (List.getElem_mem hlt)
        obtain ⟨_, hkf, hvl⟩ := HG.out _ (List.getElem_mem hlt)
        have HN := Lib.hid (encs_next hlt)
        replace c0 := hkr.cell c0 (fun h => h)
        replace c1 := hkr.cell c1 (fun h => h)
        replace c2 := hkr.cell c2 (fun h => h)
        have hbw := hok b hb
        have HRV := Lib.hid ((hrV.mono (ok' := fun j => j < w.heap.size) hok).kept hkr (fun _ _ h => h))
        generalize l[k] = d at *
        obtain ⟨key, del, val⟩ := d
        simp only at c0 c1 c2 hb1 hb2 hb3 hb4 hkf hvl HRV
        have hk40 : key.length ≤ 40 := by unfold Sto.keyF at hkf; simp only [Bool.and_eq_true, decide_eq_true_eq] at hkf; exact hkf.2.2
        have HKy := Lib.hid hb1
        generalize hP : Sto.varF l.length ++ (l.take k).flatMap Sto.enc1 = P at *
        have hPl : P.length ≤ 70000 := by rw [← hP, List.length_append]; omega
        have HN2 := Lib.hid (show Sto.varF l.length ++ (l.take (k + 1)).flatMap Sto.enc1 = P ++ Sto.enc1 ⟨key, del, val⟩ by rw [HN.out, ← hP, List.append_assoc])
        obtain ⟨sk, hsk⟩ : ∃ s, s = str key := ⟨_, rfl⟩
        have HSk := Lib.hid hsk
        rw [← hsk] at c0
        obtain ⟨Ao, co, rfl, _⟩ := hO.1.slice
        have HO := Lib.hid hO
        have hck := counted_len key
        have hcv := counted_len val
        clear hin hrV hsk hkr hb1 hb2 hP HN hO hel hkf
        cases del with
        | true =>
          obtain ⟨P1, hP1⟩ : ∃ q, P ++ [1] = q := ⟨_, rfl⟩
          obtain ⟨P2, hP2⟩ : ∃ q, P1 ++ Sto.counted key = q := ⟨_, rfl⟩
          have hl1' : P1.length ≤ 70001 := by rw [← hP1]; simp only [List.length_append, List.length_cons, List.length_nil]; omega
          have HE := Lib.hid (show Sto.varF l.length ++ (l.take (k + 1)).flatMap Sto.enc1 = P2 by rw [HN2.out, ← hP2, ← hP1]; simp [Sto.enc1])
          have HP1 := Lib.hid hP1
          have HP2 := Lib.hid hP2
          clear hP1 hP2 HN2
          go_wp2_with (first
            | ((with_reducible refine at_ 28 rfl ?_); go_must (refine step_lit rfl 23 _ 1 rfl [.int .u8 1] rfl rfl (by decide) 5 _ 1 Try.underlying23 row2_byte (by decide) (by decide) (by intro v hv; rw [List.mem_singleton] at hv; subst hv; rfl) ?_); intro w5 hb5 hk5 hs5)
            | ((with_reducible refine at_ 29 rfl ?_); go_must (refine out_rd (W := w) rfl _ _ rfl (.slice Ao P.length co) P rfl (HO.out.kept hk5) _ 1 [1] rfl (lit_one hb5 (Nat.le_refl _)) rfl (by simp only [List.length_cons, List.length_nil]; omega) ?_); intro v6 w6 hO6 hk6; rw [HP1.out] at hO6; have e0 := hk6.cell (hk5.cell c0 (fun h => h)) (fun (h : w.heap.size ≤ b) => by omega); have e2 := hk6.cell (hk5.cell c2 (fun h => h)) (fun (h : w.heap.size ≤ b) => by omega); have HRV6 := Lib.hid ((HRV.out.kept hk5 (fun _ _ h => h)).kept hk6 (fun j (h : j < w.heap.size) (h2 : w.heap.size ≤ j) => by omega)))
            | ((with_reducible refine at_ 36 rfl ?_); go_must (refine step_str_mrow rfl _ _ _ rfl under_rs under_rb under_ru key HKy.out (by rw [← HSk.out]; rfl) ?_); intro c7 w7 hc7 hM7 hk7)
            | (go_at_call 42; refine Rets.use (rcounted_c _ key (hM7.rd (ok := fun _ => True) hc7 trivial) (by omega)) ?_; rintro v8 w8 hO8)
            | ((with_reducible refine at_ 38 rfl ?_); go_must (refine out_rd (W := w) rfl _ _ rfl v6 P1 rfl ((hO6.kept hk7).kept hO8.2) v8 _ (Sto.counted key) rfl hO8.1.rd rfl (by omega) ?_); intro v9 w9 hO9 hk9; rw [HP2.out] at hO9; have f2 := hk9.cell (hO8.2.cell (hk7.cell e2 (fun h => h)) (fun h => h)) (fun (h : w.heap.size ≤ b) => by omega); have HRV9 := Lib.hid (((HRV6.out.kept hk7 (fun _ _ h => h)).kept hO8.2 (fun _ _ h => h)).kept hk9 (fun j (h : j < w.heap.size) (h2 : w.heap.size ≤ j) => by omega))))
          go_roundw
          case rel => exact ⟨k + 1, by omega, by go_num, by rw [HE.out]; exact hO9⟩
          case measure => simp [intOf]; omega
        | false =>
          obtain ⟨P1, hP1⟩ : ∃ q, P ++ [0] = q := ⟨_, rfl⟩
          obtain ⟨P2, hP2⟩ : ∃ q, P1 ++ Sto.counted key = q := ⟨_, rfl⟩
          obtain ⟨P3, hP3⟩ : ∃ q, P2 ++ Sto.counted val = q := ⟨_, rfl⟩
          have hl1' : P1.length ≤ 70001 := by rw [← hP1]; simp only [List.length_append, List.length_cons, List.length_nil]; omega
          have hl2' : P2.length ≤ 70051 := by rw [← hP2]; simp only [List.length_append]; omega
          have HE := Lib.hid (show Sto.varF l.length ++ (l.take (k + 1)).flatMap Sto.enc1 = P3 by rw [HN2.out, ← hP3, ← hP2, ← hP1]; simp [Sto.enc1])
          have HP1 := Lib.hid hP1
          have HP2 := Lib.hid hP2
          have HP3 := Lib.hid hP3
          clear hP1 hP2 hP3 HN2
          have HCv := Lib.hid (fun (w' : World) (h : Rd w' (fun j => j < w.heap.size) (.slice Av val.length cv) val.length (Disk.bytes8 val)) => rcounted_c _ val h (by omega))
          go_wp2_with (first
            | ((with_reducible refine at_ 40 rfl ?_); go_must (refine step_lit rfl 23 _ 1 rfl [.int .u8 0] rfl rfl (by decide) 5 _ 1 Try.underlying23 row2_byte (by decide) (by decide) (by intro v hv; rw [List.mem_singleton] at hv; subst hv; rfl) ?_); intro w5 hb5 hk5 hs5)
            | ((with_reducible refine at_ 41 rfl ?_); go_must (refine out_rd (W := w) rfl _ _ rfl (.slice Ao P.length co) P rfl (HO.out.kept hk5) _ 1 [0] rfl (lit_one hb5 (Nat.le_refl _)) rfl (by simp only [List.length_cons, List.length_nil]; omega) ?_); intro v6 w6 hO6 hk6; rw [HP1.out] at hO6; have e0 := hk6.cell (hk5.cell c0 (fun h => h)) (fun (h : w.heap.size ≤ b) => by omega); have e2 := hk6.cell (hk5.cell c2 (fun h => h)) (fun (h : w.heap.size ≤ b) => by omega); have HRV6 := Lib.hid ((HRV.out.kept hk5 (fun _ _ h => h)).kept hk6 (fun j (h : j < w.heap.size) (h2 : w.heap.size ≤ j) => by omega)))
            | ((with_reducible refine at_ 48 rfl ?_); go_must (refine step_str_mrow rfl _ _ _ rfl under_rs under_rb under_ru key HKy.out (by rw [← HSk.out]; rfl) ?_); intro c7 w7 hc7 hM7 hk7)
            | (go_at_call 42; refine Rets.use (rcounted_c _ key (hM7.rd (ok := fun _ => True) hc7 trivial) (by omega)) ?_; rintro v8 w8 hO8)
            | ((with_reducible refine at_ 50 rfl ?_); go_must (refine out_rd (W := w) rfl _ _ rfl v6 P1 rfl ((hO6.kept hk7).kept hO8.2) v8 _ (Sto.counted key) rfl hO8.1.rd rfl (by omega) ?_); intro v9 w9 hO9 hk9; rw [HP2.out] at hO9; have f2 := hk9.cell (hO8.2.cell (hk7.cell e2 (fun h => h)) (fun h => h)) (fun (h : w.heap.size ≤ b) => by omega); have HRV9 := Lib.hid (((HRV6.out.kept hk7 (fun _ _ h => h)).kept hO8.2 (fun _ _ h => h)).kept hk9 (fun j (h : j < w.heap.size) (h2 : w.heap.size ≤ j) => by omega)))
            | (go_at_call 42; refine Rets.use (HCv.out _ HRV9.out) ?_; rintro v10 w10 hO10)
            | ((with_reducible refine at_ 58 rfl ?_); go_must (refine out_rd (W := w) rfl _ _ rfl v9 P2 rfl (hO9.kept hO10.2) v10 _ (Sto.counted val) rfl hO10.1.rd rfl (by omega) ?_); intro v11 w11 hO11 hk11; rw [HP3.out] at hO11))
          go_roundw
          case rel => exact ⟨k + 1, by omega, by go_num, by rw [HE.out]; exact hO11⟩
          case measure => simp [intOf]; omega
      · obtain rfl : k = l.length := by omega
        rw [List.take_length] at hO
        have HO := Lib.hid hO
        clear hkr hO
        go_wp2
        go_ret2
        rw [HZ.out]
        exact ⟨HO.out.2, _, rfl, HO.out.1⟩
  · have HZ := Lib.hid (show Sto.enc l = ([], Sto.chk l) by unfold Sto.enc; rw [if_pos hz])
    have hq : (Sto.chk l != 0) = true := by simpa using hz
    generalize Sto.chk l = e at *
    clear h hB hz
    go_enter Try.func13, Try.ntmps13
    go_wp2_with (first
      | (go_at_call 19; refine Rets.use HCk.out ?_; rintro _ w1 ⟨rfl, hk1⟩))
    go_ret2
    rw [HZ.out]
    exact ⟨hk1, .slice none 0 0, rfl, OwnRow.nil _ _ _ _⟩
/-! ### the reader -/
/-- The reader lies there: the bytes, how far it is, whether it failed. -/
def RdrIs (w : World) (x : Nat) (vB : Value) (n : Nat) (bad : Bool) : Prop := w.heap[x]? = some (.cells [vB, .int .i64 n, .bool bad].toArray 92 (0, 0))
def numF (b : List Int) (n : Nat) (bad : Bool) : Nat × Nat × Bool := if bad = true ∨ (Sto.rdF (b.drop n)).2.2 ≠ 0 then (0, n, true) else ((Sto.rdF (b.drop n)).1, n + (Sto.rdF (b.drop n)).2.1, false)
def byteF (b : List Int) (n : Nat) (bad : Bool) : Int × Nat × Bool := if bad = true ∨ b.length ≤ n then (0, n, true) else (b.getD n 0, n + 1, false)
def pieceF (b : List Int) (n : Nat) (bad : Bool) : List Int × Nat × Bool := if (numF b n bad).2.2 = true ∨ b.length - (numF b n bad).2.1 < (numF b n bad).1 then ([], (numF b n bad).2.1, true) else ((b.drop (numF b n bad).2.1).take (numF b n bad).1, (numF b n bad).2.1 + (numF b n bad).1, false)
theorem numF_le {b : List Int} {n : Nat} (bad : Bool) (hn : n ≤ b.length) : (numF b n bad).2.1 ≤ b.length := by
  unfold numF
  split
  · exact hn
  · rename_i h
    have := rd_le (b.drop n) (Classical.not_not.1 (fun h2 => h (.inr h2)))
    rw [List.length_drop] at this
    simp only
    omega
set_option maxHeartbeats 1600000 in
set_option maxRecDepth 100000 in
theorem rnumber_c {w : World} {ok : Nat → Prop} {x : Nat} {vB : Value} {b : List Int} {n : Nat} {bad : Bool} (hr : Rd w ok vB b.length (Disk.bytes8 b)) (hB : IsB b) (hl : b.length ≤ 1000000) (hn : n ≤ b.length) (hb : RdrIs w x vB n bad) :
    Calls Try.prog 45 #[.pointer (some ⟨x, 0, none⟩)] w (Rets fun v w' => v = .int .u64 (numF b n bad).1 ∧ RdrIs w' x vB (numF b n bad).2.1 (numF b n bad).2.2 ∧ Keeps (· = x) w w') := by
  obtain ⟨A, c, rfl, _⟩ := hr.slice
  have HV := Lib.hid (fun (w' : World) (v : Value) (h : Rd w' ok v (b.length - n) ((Disk.bytes8 b).drop n)) => rrdvar_c v (b.drop n) (by rw [List.length_drop, ← drop8]; exact h) (hB.drop n) (by rw [List.length_drop]; omega))
  have hle := rd_le (b.drop n)
  rw [List.length_drop] at hle
  have HF := Lib.hid (show numF b n bad = if bad = true ∨ (Sto.rdF (b.drop n)).2.2 ≠ 0 then (0, n, true) else ((Sto.rdF (b.drop n)).1, n + (Sto.rdF (b.drop n)).2.1, false) from rfl)
  generalize Sto.rdF (b.drop n) = q at *
  obtain ⟨y, m, e⟩ := q
  simp only at HF HV hle
  have HR := Lib.hid hr
  have HBx := Lib.hid hb
  clear hr hb hB
  go_enter Try.func45, Try.ntmps45
  go_wp2
  refine Canon.row [0, 1, 2, 4, 5, 6, 3, 7, 8, 9, 10, 11, 12, 13, 14, 15, 16] (by kernel_rfl) (by kernel_rfl) (by repeat (first | (with_reducible exact Safe.body) | (with_reducible apply Safe.then) | (with_reducible apply Safe.inBlock) | (dsimp +zetaDelta only))) ?_
  simp only [Canon.pick, Canon.wpPlan, List.getElem?_toArray, List.getElem?_cons_zero, List.getElem?_cons_succ]
  have KD : Keeps (fun _ => False) w w.drew := (Keeps.refl _ w).drew
  have HRd := Lib.hid (HR.out.kept KD (fun _ _ h => h))
  have hb := KD.heap HBx.out (fun h => h)
  have HK := Lib.hid KD
  generalize w.drew = wd at *
  have c0 : wd.cell? ⟨x, 0, none⟩ = some (.slice A b.length c) := cell_of_row wd x 0 _ _ _ hb
  have c1 : wd.cell? ⟨x, 1, none⟩ = some (.int .i64 n) := cell_of_row wd x 1 _ _ _ hb
  have c2 : wd.cell? ⟨x, 2, none⟩ = some (.bool bad) := cell_of_row wd x 2 _ _ _ hb
  have HBd := Lib.hid hb
  clear hb KD
  go_wp2_with (first
    | ((with_reducible refine at_ 15 rfl ?_); go_must (refine step_slice_from rfl _ _ _ rfl 5 under_elem info_elem A b.length c n .i64 _ rfl rfl hn HRd.out (Disk.bytes8_len b) ?_); intro v3 hr3)
    | (go_at_call 66; refine Rets.use (HV.out _ _ hr3) ?_; rintro _ _ ⟨rfl, rfl⟩))
  refine ⟨by rfl, trivial, ?_⟩
  by_cases hbe : bad = true ∨ e ≠ 0
  · have HE := Lib.hid (show numF b n bad = (0, n, true) by rw [HF.out, if_pos hbe])
    cases bad with
    | true =>
      go_wp2_with ((with_reducible refine at_store 4 (.tmp 30) (.const (.bool true)) rfl ?_); go_must (refine step_store1 rfl _ _ _ rfl x 2 (.bool true) _ _ rfl rfl rfl HBd.out (by simp) info_ro ?_); intro w5 hb5 hk5 hs5)
      go_ret
      rw [HE.out]
      exact ⟨rfl, hb5, (HK.out.mono (fun _ _ h => h.elim)).trans hk5 (fun _ _ h => h)⟩
    | false =>
      have hq : (e != 0) = true := by rcases hbe with h | h; cases h; simpa using h
      clear hbe
      go_wp2_with ((with_reducible refine at_store 4 (.tmp 30) (.const (.bool true)) rfl ?_); go_must (refine step_store1 rfl _ _ _ rfl x 2 (.bool true) _ _ rfl rfl rfl HBd.out (by simp) info_ro ?_); intro w5 hb5 hk5 hs5)
      go_ret
      rw [HE.out]
      exact ⟨rfl, hb5, (HK.out.mono (fun _ _ h => h.elim)).trans hk5 (fun _ _ h => h)⟩
  · have HE := Lib.hid (show numF b n bad = (y, n + m, false) by rw [HF.out, if_neg hbe])
    obtain rfl : bad = false := by cases bad; rfl; exact (hbe (.inl rfl)).elim
    obtain rfl : e = 0 := Classical.not_not.1 (fun h => hbe (.inr h))
    obtain ⟨hm1, hm2⟩ := hle rfl
    clear hle hbe
    go_wp2_with ((with_reducible refine at_store 3 (.tmp 39) (.tmp 37) rfl ?_); go_must (refine step_store1 rfl _ _ _ rfl x 1 (.int .i64 ((n + m : Nat) : Int)) _ _ rfl (by go_num) rfl HBd.out (by simp) info_ri ?_); intro w5 hb5 hk5 hs5)
    go_ret
    rw [HE.out]
    exact ⟨rfl, hb5, (HK.out.mono (fun _ _ h => h.elim)).trans hk5 (fun _ _ h => h)⟩
set_option maxHeartbeats 1600000 in
set_option maxRecDepth 100000 in
theorem rbyte_c {w : World} {ok : Nat → Prop} {x : Nat} {vB : Value} {b : List Int} {n : Nat} {bad : Bool} (hr : Rd w ok vB b.length (Disk.bytes8 b)) (hx : ∀ k, ok k → k ≠ x) (hl : b.length ≤ 1000000) (hn : n ≤ b.length) (hb : RdrIs w x vB n bad) :
    Calls Try.prog 46 #[.pointer (some ⟨x, 0, none⟩)] w (Rets fun v w' => v = .int .u8 (byteF b n bad).1 ∧ RdrIs w' x vB (byteF b n bad).2.1 (byteF b n bad).2.2 ∧ Keeps (· = x) w w') := by
  obtain ⟨A, c, rfl, _⟩ := hr.slice
  have HF := Lib.hid (show byteF b n bad = if bad = true ∨ b.length ≤ n then (0, n, true) else (b.getD n 0, n + 1, false) from rfl)
  have HR := Lib.hid hr
  have HX := Lib.hid hx
  have HBx := Lib.hid hb
  clear hr hb hx
  go_enter Try.func46, Try.ntmps46
  go_wp2
  refine Canon.row [0, 1, 2, 3, 4, 5, 6, 7, 9, 10, 11, 8, 12, 13, 14, 15] (by kernel_rfl) (by kernel_rfl) (by repeat (first | (with_reducible exact Safe.body) | (with_reducible apply Safe.then) | (with_reducible apply Safe.inBlock) | (dsimp +zetaDelta only))) ?_
  simp only [Canon.pick, Canon.wpPlan, List.getElem?_toArray, List.getElem?_cons_zero, List.getElem?_cons_succ]
  have KD : Keeps (fun _ => False) w w.drew := (Keeps.refl _ w).drew
  have HRd := Lib.hid (HR.out.kept KD (fun _ _ h => h))
  have hb := KD.heap HBx.out (fun h => h)
  have HK := Lib.hid KD
  generalize w.drew = wd at *
  have c0 : wd.cell? ⟨x, 0, none⟩ = some (.slice A b.length c) := cell_of_row wd x 0 _ _ _ hb
  have c1 : wd.cell? ⟨x, 1, none⟩ = some (.int .i64 n) := cell_of_row wd x 1 _ _ _ hb
  have c2 : wd.cell? ⟨x, 2, none⟩ = some (.bool bad) := cell_of_row wd x 2 _ _ _ hb
  have HBd := Lib.hid hb
  clear hb KD
  cases bad with
  | true =>
    have HE := Lib.hid (show byteF b n true = (0, n, true) by rw [HF.out, if_pos (.inl rfl)])
    go_wp2
    refine ⟨by rfl, trivial, ?_⟩
    go_wp2_with ((with_reducible refine at_store 4 (.tmp 21) (.const (.bool true)) rfl ?_); go_must (refine step_store1 rfl _ _ _ rfl x 2 (.bool true) _ _ rfl rfl rfl HBd.out (by simp) info_ro ?_); intro w5 hb5 hk5 hs5)
    go_ret
    rw [HE.out]
    exact ⟨rfl, hb5, (HK.out.mono (fun _ _ h => h.elim)).trans hk5 (fun _ _ h => h)⟩
  | false =>
    by_cases hlt : b.length ≤ n
    · have HE := Lib.hid (show byteF b n false = (0, n, true) by rw [HF.out, if_pos (.inr hlt)])
      go_wp2
      refine ⟨by rfl, trivial, ?_⟩
      go_wp2_with ((with_reducible refine at_store 4 (.tmp 21) (.const (.bool true)) rfl ?_); go_must (refine step_store1 rfl _ _ _ rfl x 2 (.bool true) _ _ rfl rfl rfl HBd.out (by simp) info_ro ?_); intro w5 hb5 hk5 hs5)
      go_ret
      rw [HE.out]
      exact ⟨rfl, hb5, (HK.out.mono (fun _ _ h => h.elim)).trans hk5 (fun _ _ h => h)⟩
    · have hlt' : n < b.length := by omega
      have HE := Lib.hid (show byteF b n false = (b[n], n + 1, false) by rw [HF.out, if_neg (by rintro (h | h); cases h; exact hlt h), List.getD_eq_getElem?_getD, List.getElem?_eq_getElem hlt']; rfl)
      obtain ⟨g, o, c', e, _, hg, hcell⟩ := HRd.out.at (by intro e; have := congrArg List.length e; rw [Disk.bytes8_len, List.length_nil] at this; omega)
      cases e
      have hgx := HX.out g hg
      have d0 : wd.cell? ⟨g, o + n, none⟩ = some (.int .u8 b[n]) := hcell n _ (by simp [Disk.bytes8, hlt'])
      clear hcell
      generalize b[n] = y at *
      go_wp2
      refine ⟨by rfl, trivial, ?_⟩
      go_wp2_with ((with_reducible refine at_store 3 (.tmp 28) (.tmp 26) rfl ?_); go_must (refine step_store1 rfl _ _ _ rfl x 1 (.int .i64 ((n + 1 : Nat) : Int)) _ _ rfl (by go_num) rfl HBd.out (by simp) info_ri ?_); intro w5 hb5 hk5 hs5)
      refine Canon.row [0, 1, 2, 4, 5, 6, 3, 7, 8, 9, 10, 11] (by kernel_rfl) (by kernel_rfl) (by repeat (first | (with_reducible exact Safe.body) | (with_reducible apply Safe.then) | (with_reducible apply Safe.inBlock) | (dsimp +zetaDelta only))) ?_
      simp only [Canon.pick, Canon.wpPlan, List.getElem?_toArray, List.getElem?_cons_zero, List.getElem?_cons_succ]
      have KD5 : Keeps (fun _ => False) w5 w5.drew := (Keeps.refl _ w5).drew
      have hb6 := KD5.heap hb5 (fun h => h)
      have d6 := KD5.cell (hk5.cell d0 hgx) (fun h => h)
      have HK6 := Lib.hid (((HK.out.mono (S' := (· = x)) (fun _ _ h => h.elim)).trans hk5 (fun _ _ h => h)).trans (KD5.mono (S' := (· = x)) (fun _ _ h => h.elim)) (fun _ _ h => h))
      generalize w5.drew = w6 at *
      have e0 : w6.cell? ⟨x, 0, none⟩ = some (.slice (some ⟨g, o, none⟩) b.length c) := cell_of_row w6 x 0 _ _ _ hb6
      have e1 : w6.cell? ⟨x, 1, none⟩ = some (.int .i64 ((n + 1 : Nat) : Int)) := cell_of_row w6 x 1 _ _ _ hb6
      have HB6 := Lib.hid hb6
      clear hb6 KD5 hb5 hk5 d0 c0 c1 c2
      go_wp2
      refine ⟨by rfl, trivial, ?_⟩
      go_wp2
      go_ret
      rw [HE.out]
      exact ⟨rfl, HB6.out, HK6.out⟩
set_option maxHeartbeats 3200000 in
set_option maxRecDepth 100000 in
theorem rpiece_c {w : World} {ok : Nat → Prop} {x : Nat} {vB : Value} {b : List Int} {n : Nat} {bad : Bool} (hr : Rd w ok vB b.length (Disk.bytes8 b)) (hx : ∀ k, ok k → k ≠ x) (hB : IsB b) (hl : b.length ≤ 1000000) (hn : n ≤ b.length) (hb : RdrIs w x vB n bad) :
    Calls Try.prog 47 #[.pointer (some ⟨x, 0, none⟩)] w (Rets fun v w' => OwnRow w' (fun j => w.heap.size ≤ j) 5 1 v (pieceF b n bad).1.length (Disk.bytes8 (pieceF b n bad).1) ∧ RdrIs w' x vB (pieceF b n bad).2.1 (pieceF b n bad).2.2 ∧ Keeps (· = x) w w') := by
  obtain ⟨A, c, rfl, _⟩ := hr.slice
  have HN := Lib.hid (rnumber_c hr hB hl hn hb)
  have hle := numF_le bad hn
  have HF := Lib.hid (show pieceF b n bad = if (numF b n bad).2.2 = true ∨ b.length - (numF b n bad).2.1 < (numF b n bad).1 then ([], (numF b n bad).2.1, true) else ((b.drop (numF b n bad).2.1).take (numF b n bad).1, (numF b n bad).2.1 + (numF b n bad).1, false) from rfl)
  generalize numF b n bad = q at *
  obtain ⟨y, m, bd⟩ := q
  simp only at HF HN hle
  have HR := Lib.hid hr
  have HX := Lib.hid hx
  clear hr hb hB hx
  go_enter Try.func47, Try.ntmps47
  go_wp2_with (go_at_call 45; refine Rets.use HN.out ?_; rintro _ w1 ⟨rfl, hb1, hk1⟩)
  refine Canon.row [0, 1, 2, 3, 4, 5, 6, 7, 8, 11, 12, 13, 9, 10, 14, 15, 16, 17, 18] (by kernel_rfl) (by kernel_rfl) (by repeat (first | (with_reducible exact Safe.body) | (with_reducible apply Safe.then) | (with_reducible apply Safe.inBlock) | (dsimp +zetaDelta only))) ?_
  simp only [Canon.pick, Canon.wpPlan, List.getElem?_toArray, List.getElem?_cons_zero, List.getElem?_cons_succ]
  have KD : Keeps (fun _ => False) w1 w1.drew := (Keeps.refl _ w1).drew
  have HRd := Lib.hid ((HR.out.kept hk1 (fun k h => HX.out k h)).kept KD (fun _ _ h => h))
  have hb := KD.heap hb1 (fun h => h)
  have HK := Lib.hid (hk1.trans (KD.mono (S' := (· = x)) (fun _ _ h => h.elim)) (fun _ _ h => h))
  generalize w1.drew = wd at *
  have c0 : wd.cell? ⟨x, 0, none⟩ = some (.slice A b.length c) := cell_of_row wd x 0 _ _ _ hb
  have c1 : wd.cell? ⟨x, 1, none⟩ = some (.int .i64 m) := cell_of_row wd x 1 _ _ _ hb
  have c2 : wd.cell? ⟨x, 2, none⟩ = some (.bool bd) := cell_of_row wd x 2 _ _ _ hb
  have HBd := Lib.hid hb
  clear hb KD hb1 hk1
  cases bd with
  | true =>
    have HE := Lib.hid (show pieceF b n bad = ([], m, true) by rw [HF.out, if_pos (.inl rfl)])
    go_wp2
    refine ⟨by rfl, trivial, ?_⟩
    go_wp2_with ((with_reducible refine at_store 4 (.tmp 27) (.const (.bool true)) rfl ?_); go_must (refine step_store1 rfl _ _ _ rfl x 2 (.bool true) _ _ rfl rfl rfl HBd.out (by simp) info_ro ?_); intro w5 hb5 hk5 hs5)
    go_ret
    rw [HE.out]
    exact ⟨OwnRow.nil _ _ _ _, hb5, HK.out.trans hk5 (fun _ _ h => h)⟩
  | false =>
    by_cases hlt : b.length - m < y
    · have HE := Lib.hid (show pieceF b n bad = ([], m, true) by rw [HF.out, if_pos (.inr hlt)])
      have hs' : (b.length : Int) - m < y := by omega
      go_wp2
      refine ⟨by rfl, trivial, ?_⟩
      go_wp2_with ((with_reducible refine at_store 4 (.tmp 27) (.const (.bool true)) rfl ?_); go_must (refine step_store1 rfl _ _ _ rfl x 2 (.bool true) _ _ rfl rfl rfl HBd.out (by simp) info_ro ?_); intro w5 hb5 hk5 hs5)
      go_ret
      rw [HE.out]
      exact ⟨OwnRow.nil _ _ _ _, hb5, HK.out.trans hk5 (fun _ _ h => h)⟩
    · have HE := Lib.hid (show pieceF b n bad = ((b.drop m).take y, m + y, false) by rw [HF.out, if_neg (by rintro (h | h); cases h; exact hlt h)])
      have hs' : (y : Int) ≤ (b.length : Int) - m := by omega
      have hxl : (y : Int) ≤ 1000000 := by omega
      go_wp2
      refine ⟨by rfl, trivial, ?_⟩
      go_wp2_with ((with_reducible refine at_store 3 (.tmp 37) (.tmp 35) rfl ?_); go_must (refine step_store1 rfl _ _ _ rfl x 1 (.int .i64 ((m + y : Nat) : Int)) _ _ rfl (by go_num) rfl HBd.out (by simp) info_ri ?_); intro w5 hb5 hk5 hs5)
      refine Canon.row [0, 1, 2, 4, 5, 6, 8, 9, 11, 12, 13, 3, 7, 10, 14, 15, 16, 17] (by kernel_rfl) (by kernel_rfl) (by repeat (first | (with_reducible exact Safe.body) | (with_reducible apply Safe.then) | (with_reducible apply Safe.inBlock) | (dsimp +zetaDelta only))) ?_
      simp only [Canon.pick, Canon.wpPlan, List.getElem?_toArray, List.getElem?_cons_zero, List.getElem?_cons_succ]
      have KD5 : Keeps (fun _ => False) w5 w5.drew := (Keeps.refl _ w5).drew
      have hb6 := KD5.heap hb5 (fun h => h)
      have HR6 := Lib.hid ((HRd.out.kept hk5 (fun k h => HX.out k h)).kept KD5 (fun _ _ h => h))
      have HK6 := Lib.hid ((HK.out.trans hk5 (fun _ _ h => h)).trans (KD5.mono (S' := (· = x)) (fun _ _ h => h.elim)) (fun _ _ h => h))
      generalize w5.drew = w6 at *
      have e0 : w6.cell? ⟨x, 0, none⟩ = some (.slice A b.length c) := cell_of_row w6 x 0 _ _ _ hb6
      have e1 : w6.cell? ⟨x, 1, none⟩ = some (.int .i64 ((m + y : Nat) : Int)) := cell_of_row w6 x 1 _ _ _ hb6
      have HB6 := Lib.hid hb6
      have hz6 := HK6.out.size
      clear hb6 KD5 hb5 hk5 c0 c1 c2
      go_wp2_with (first
        | ((with_reducible refine at_ 53 rfl ?_); go_must (refine step_slice_mid rfl _ _ _ _ rfl under_elem info_elem A b.length c m (m + y) .i64 .i64 _ rfl (by go_num) (by go_num) (by omega) (by omega) HR6.out (Disk.bytes8_len b) ?_); intro v3 hr3; rw [mid8, show m + y - m = ((b.drop m).take y).length by rw [List.length_take, List.length_drop]; omega, show (b.drop m).take ((b.drop m).take y).length = (b.drop m).take y by rw [List.length_take, List.length_drop, Nat.min_eq_left (by omega)]] at hr3)
        | (go_at_call 11; refine Rets.use (copy_c _ _ hr3 (by rw [List.length_take]; omega)) ?_; rintro v7 w7 ⟨hO7, hk7⟩))
      refine ⟨by rfl, trivial, ?_⟩
      go_wp2
      go_ret
      rw [HE.out]
      exact ⟨hO7.mono (fun j _ h => Nat.le_trans hz6 h), hk7.heap HB6.out (fun h => h), HK6.out.trans (hk7.mono (S' := (· = x)) (fun _ _ h => h.elim)) (fun _ _ h => h)⟩
end Go.Proofs.Ytbiohidelhfaiaa
end

section
namespace Go.Proofs.Ytbiohidelhfaiaa
open Go.RowKit Go.Canon Go.Mem
open Go.Proofs.Ytbiohidelhfaiaa.Sto (Chg)
set_option linter.unusedVariables false
set_option linter.unusedSimpArgs false
def dEnd (b : List Int) (m : Option (List Chg × List Int)) : List Chg × Int := match m with
  | none => ([], 4)
  | some (l, r) => if Sto.chk l ≠ 0 ∨ Sto.encL l ≠ b then ([], 4) else (l, 0)
def dMore (x : Nat) (m : Option (Chg × List Int)) : Option (List Chg × List Int) := match m with
  | none => none
  | some (c, r) => match Sto.dChanges x r with
    | none => none
    | some (l, r2) => some (c :: l, r2)
theorem dDec_eq (b : List Int) : Sto.dDec b = if (Sto.rdF b).2.2 ≠ 0 ∨ 16 < (Sto.rdF b).1 then ([], 4) else dEnd b (Sto.dChanges (Sto.rdF b).1 (b.drop (Sto.rdF b).2.1)) := by
  unfold Sto.dDec dEnd
  rfl
theorem dChanges_eq (n : Nat) (b : List Int) : Sto.dChanges (n + 1) b = dMore n (Sto.dChange b) := by
  unfold dMore
  rw [Sto.dChanges]
  rfl
theorem decPre_dMore (lk : List Chg) (x : Nat) (c : Chg) (r : List Int) : decPre lk (dMore x (some (c, r))) = decPre (lk ++ [c]) (Sto.dChanges x r) := by
  unfold decPre dMore
  simp only
  cases Sto.dChanges x r with
  | none => rfl
  | some q => obtain ⟨l, r2⟩ := q; simp
theorem pieceF_bad (b : List Int) (n : Nat) : pieceF b n true = ([], n, true) := by
  have e : numF b n true = (0, n, true) := by unfold numF; rw [if_pos (.inl rfl)]
  unfold pieceF
  rw [e, if_pos (.inl rfl)]
theorem pieceF_le {b : List Int} {n : Nat} (bad : Bool) (hn : n ≤ b.length) : (pieceF b n bad).2.1 ≤ b.length := by
  have := numF_le bad hn
  unfold pieceF
  split
  · exact this
  · rename_i h
    show (numF b n bad).2.1 + (numF b n bad).1 ≤ b.length
    have : ¬ b.length - (numF b n bad).2.1 < (numF b n bad).1 := fun h2 => h (.inr h2)
    omega
theorem pieceF_sub {b : List Int} (hB : IsB b) (n : Nat) (bad : Bool) : IsB (pieceF b n bad).1 ∧ (pieceF b n bad).1.length ≤ b.length := by
  unfold pieceF
  split
  · exact ⟨IsB.nil, Nat.zero_le _⟩
  · refine ⟨(hB.drop _).take _, ?_⟩
    simp only [List.length_take, List.length_drop]
    omega
theorem pieceF_of {b : List Int} {n : Nat} (hn : n ≤ b.length) : match Sto.piece (b.drop n) with
    | none => (pieceF b n false).2.2 = true
    | some (k, r) => ∃ n', pieceF b n false = (k, n', false) ∧ b.drop n' = r := by
  unfold Sto.piece
  by_cases he : (Sto.rdF (b.drop n)).2.2 ≠ 0
  · rw [if_pos (.inl he)]
    have e : numF b n false = (0, n, true) := by unfold numF; rw [if_pos (.inr he)]
    show (pieceF b n false).2.2 = true
    unfold pieceF
    rw [e, if_pos (.inl rfl)]
  · have e : numF b n false = ((Sto.rdF (b.drop n)).1, n + (Sto.rdF (b.drop n)).2.1, false) := by unfold numF; rw [if_neg (by rintro (h | h); cases h; exact he h)]
    generalize Sto.rdF (b.drop n) = q at *
    obtain ⟨x, m, er⟩ := q
    simp only at e he ⊢
    by_cases hx : (b.drop n).length - m < x
    · rw [if_pos (.inr hx)]
      show (pieceF b n false).2.2 = true
      rw [List.length_drop] at hx
      unfold pieceF
      rw [e]
      simp only
      rw [if_pos (.inr (by omega))]
    · rw [if_neg (by rintro (h | h); exact he h; exact hx h)]
      refine ⟨n + m + x, ?_, ?_⟩
      · rw [List.length_drop] at hx
        unfold pieceF
        rw [e]
        simp only
        rw [if_neg (by rintro (h | h); cases h; omega), List.drop_drop]
      · rw [List.drop_drop, Nat.add_assoc]
theorem byteF_of {b : List Int} {n : Nat} : match b.drop n with
    | [] => byteF b n false = (0, n, true)
    | t :: r => byteF b n false = (t, n + 1, false) ∧ b.drop (n + 1) = r := by
  by_cases hn : b.length ≤ n
  · rw [List.drop_eq_nil_of_le hn]
    show byteF b n false = _
    unfold byteF
    rw [if_pos (.inr hn)]
  · have hn' : n < b.length := by omega
    rw [List.drop_eq_getElem_cons hn']
    refine ⟨?_, rfl⟩
    unfold byteF
    rw [if_neg (by rintro (h | h); cases h; exact hn h), List.getD_eq_getElem?_getD, List.getElem?_eq_getElem hn']; rfl
theorem byteF_le {b : List Int} {n : Nat} (hn : n ≤ b.length) : (byteF b n false).2.1 ≤ b.length := by
  unfold byteF
  split
  · exact hn
  · rename_i h
    show n + 1 ≤ b.length
    have : ¬ b.length ≤ n := fun h2 => h (.inr h2)
    omega
/-- A round that ends with a key: what the document's reader says of it. -/
theorem round_del {b : List Int} {n n1 n2 : Nat} {t : Int} {b1 b2 : Bool} {k : List Int} (hn : n ≤ b.length) (h1 : byteF b n false = (t, n1, b1)) (h2 : pieceF b n1 b1 = (k, n2, b2)) (ht : t = 1) :
    (b2 = false → Sto.dChange (b.drop n) = some (⟨k, true, []⟩, b.drop n2)) ∧ (b2 = true → Sto.dChange (b.drop n) = none) := by
  have hb := byteF_of (b := b) (n := n)
  have hle := byteF_le hn
  rw [h1] at hle
  unfold Sto.dChange
  cases hd : b.drop n with
  | nil => rw [hd] at hb; simp only [h1, Prod.mk.injEq] at hb; omega
  | cons s r =>
    rw [hd] at hb
    simp only [h1, Prod.mk.injEq] at hb
    obtain ⟨⟨rfl, rfl, rfl⟩, rfl⟩ := hb
    have hp := pieceF_of (b := b) (n := n + 1) hle
    simp only
    cases hq : Sto.piece (b.drop (n + 1)) with
    | none => rw [hq] at hp; simp only [h2] at hp; subst hp; exact ⟨fun h => (by cases h), fun _ => rfl⟩
    | some q =>
      obtain ⟨k', r'⟩ := q
      rw [hq] at hp
      simp only at hp
      obtain ⟨n', e, rfl⟩ := hp
      rw [h2] at e
      simp only [Prod.mk.injEq] at e
      obtain ⟨rfl, rfl, rfl⟩ := e
      simp only
      rw [if_pos ht]
      exact ⟨fun _ => rfl, fun h => by cases h⟩
theorem round_put {b : List Int} {n n1 n2 n3 : Nat} {t : Int} {b1 b2 b3 : Bool} {k v : List Int} (hn : n ≤ b.length) (h1 : byteF b n false = (t, n1, b1)) (h2 : pieceF b n1 b1 = (k, n2, b2)) (h3 : pieceF b n2 b2 = (v, n3, b3)) (ht : t ≠ 1) :
    (b3 = false → Sto.dChange (b.drop n) = some (⟨k, false, v⟩, b.drop n3)) ∧ (b3 = true → Sto.dChange (b.drop n) = none) := by
  have hb := byteF_of (b := b) (n := n)
  have hle := byteF_le hn
  rw [h1] at hle
  have hle2 := pieceF_le b1 hle
  rw [h2] at hle2
  unfold Sto.dChange
  cases hd : b.drop n with
  | nil =>
    rw [hd] at hb
    simp only [h1, Prod.mk.injEq] at hb
    obtain ⟨rfl, rfl, rfl⟩ := hb
    rw [pieceF_bad] at h2
    simp only [Prod.mk.injEq] at h2
    obtain ⟨rfl, rfl, rfl⟩ := h2
    rw [pieceF_bad] at h3
    simp only [Prod.mk.injEq] at h3
    obtain ⟨rfl, rfl, rfl⟩ := h3
    exact ⟨fun h => (by cases h), fun _ => rfl⟩
  | cons s r =>
    rw [hd] at hb
    simp only [h1, Prod.mk.injEq] at hb
    obtain ⟨⟨rfl, rfl, rfl⟩, rfl⟩ := hb
    have hp := pieceF_of (b := b) (n := n + 1) hle
    simp only
    cases hq : Sto.piece (b.drop (n + 1)) with
    | none =>
      rw [hq] at hp
      simp only [h2] at hp
      subst hp
      rw [pieceF_bad] at h3
      simp only [Prod.mk.injEq] at h3
      obtain ⟨rfl, rfl, rfl⟩ := h3
      exact ⟨fun h => (by cases h), fun _ => rfl⟩
    | some q =>
      obtain ⟨k', r'⟩ := q
      rw [hq] at hp
      simp only at hp
      obtain ⟨n', e, rfl⟩ := hp
      rw [h2] at e
      simp only [Prod.mk.injEq] at e
      obtain ⟨rfl, rfl, rfl⟩ := e
      simp only
      rw [if_neg ht]
      have hp := pieceF_of (b := b) (n := n2) hle2
      cases hq2 : Sto.piece (b.drop n2) with
      | none => rw [hq2] at hp; simp only [h3] at hp; subst hp; exact ⟨fun h => (by cases h), fun _ => rfl⟩
      | some q =>
        obtain ⟨k', r'⟩ := q
        rw [hq2] at hp
        simp only at hp
        obtain ⟨n', e, rfl⟩ := hp
        rw [h3] at e
        simp only [Prod.mk.injEq] at e
        obtain ⟨rfl, rfl, rfl⟩ := e
        exact ⟨fun _ => rfl, fun h => by cases h⟩
/-- The state of the reading, behind some rounds. -/
def ReadAs (b b0 : List Int) (N m n : Nat) (bad : Bool) (lk : List Chg) : Prop := (bad = false → Sto.dChanges N b0 = decPre lk (Sto.dChanges (N - m) (b.drop n))) ∧ (bad = true → Sto.dChanges N b0 = none)
theorem ReadAs.next {b b0 : List Int} {N m n n' : Nat} {bad' : Bool} {lk : List Chg} {c : Chg} (h : ReadAs b b0 N m n false lk) (hm : m < N) (h1 : bad' = false → Sto.dChange (b.drop n) = some (c, b.drop n')) (h2 : bad' = true → Sto.dChange (b.drop n) = none) : ReadAs b b0 N (m + 1) n' bad' (lk ++ [c]) := by
  have e := h.1 rfl
  rw [show N - m = N - (m + 1) + 1 by omega, dChanges_eq] at e
  refine ⟨fun hb => ?_, fun hb => ?_⟩
  · rw [h1 hb, decPre_dMore] at e
    exact e
  · rw [h2 hb] at e
    exact e
set_option maxHeartbeats 12800000 in
set_option maxRecDepth 100000 in
theorem rdecode_c {ok : Nat → Prop} {w : World} (v : Value) (b : List Int) (hr : Rd w ok v b.length (Disk.bytes8 b)) (hB : IsB b) (hl : b.length ≤ 1000000) (hok : ∀ j, ok j → j < w.heap.size) : Calls Try.prog 15 #[v] w (Rets (DecIs w (Sto.dDec b))) := by
  obtain ⟨A, c, rfl, _⟩ := hr.slice
  have HR := Lib.hid hr
  have HB := Lib.hid hB
  have HD := Lib.hid (dDec_eq b)
  have hx0 : ∀ k, ok k → k ≠ w.heap.size := fun k h => by have := hok k h; omega
  have HNu := Lib.hid (fun (w' : World) (h : RdrIs w' w.heap.size (.slice A b.length c) 0 false) (hk : Keeps (fun _ => False) w w') => rnumber_c (ok := ok) (hr.kept hk (fun _ _ h => h)) hB hl (Nat.zero_le _) h)
  have hnf : numF b 0 false = if (Sto.rdF b).2.2 ≠ 0 then (0, 0, true) else ((Sto.rdF b).1, (Sto.rdF b).2.1, false) := by
    unfold numF
    simp
  rw [hnf] at HNu
  have hle := rd_le b
  have hy := rdF_lt b hB
  have HX := Lib.hid hx0
  have HOk := Lib.hid hok
  clear hr hB hx0 hnf hok
  generalize Sto.rdF b = q at *
  obtain ⟨N, n0, e⟩ := q
  simp only at HD HNu hle hy
  have hbox := fun (w2 : World) (h : w2.heap[w.heap.size]? = some (.cells [.slice A b.length c, .int .i64 0, .bool false].toArray 92 (0, 0))) => (h : RdrIs w2 w.heap.size (.slice A b.length c) 0 false)
  by_cases he : e = 0
  · subst he
    obtain ⟨hn1, hn2⟩ := hle rfl
    rw [if_neg (fun h => h rfl)] at HNu
    simp only at HNu
    clear hle
    by_cases h16 : 16 < N
    · have HE := Lib.hid (show Sto.dDec b = ([], 4) by rw [HD.out, if_pos (.inr h16)])
      go_enter Try.func15, Try.ntmps15
      go_wp2_with (first
        | ((with_reducible refine at_ 14 rfl ?_); go_must (refine step_box rfl 92 _ rfl _ rfl [.slice A b.length c, .int .i64 0, .bool false] rfl ?_); intro w2 hb2 hk2 hs2)
        | (go_at_call 45; refine Rets.use (HNu.out _ (hbox _ hb2) hk2) ?_; rintro _ w3 ⟨rfl, hb3, hk3⟩; replace hk2 := hk2.mono (S' := (· = w.heap.size)) (fun _ _ h => h.elim); have cb3 : w3.cell? ⟨w.heap.size, 2, none⟩ = some (.bool _) := cell_of_row w3 _ 2 _ _ _ hb3))
      go_ret2
      rw [HE.out]
      exact decIs_no _ _ ((hk2.trans hk3 (fun _ _ h => h)).mono (fun j hj h => by omega))
    · have HD2 := Lib.hid (show Sto.dDec b = dEnd b (Sto.dChanges N (b.drop n0)) by rw [HD.out, if_neg (by rintro (h | h); exact h rfl; exact h16 h)])
      have hN16 : N ≤ 16 := by omega
      go_enter Try.func15, Try.ntmps15
      go_wp2_with (first
        | ((with_reducible refine at_ 14 rfl ?_); go_must (refine step_box rfl 92 _ rfl _ rfl [.slice A b.length c, .int .i64 0, .bool false] rfl ?_); intro w2 hb2 hk2 hs2)
        | (go_at_call 45; refine Rets.use (HNu.out _ (hbox _ hb2) hk2) ?_; rintro _ w3 ⟨rfl, hb3, hk3⟩; replace hk2 := hk2.mono (S' := (· = w.heap.size)) (fun _ _ h => h.elim); have cb3 : w3.cell? ⟨w.heap.size, 2, none⟩ = some (.bool _) := cell_of_row w3 _ 2 _ _ _ hb3))
      have HK3 := Lib.hid ((hk2.trans hk3 (fun _ _ h => h)).mono (S' := fun _ => False) (fun j hj h => by omega))
      have HB3 := Lib.hid hb3
      clear hk2 hk3 hb3 hb2 hs2 hbox
      generalize hX0 : w.heap.size = x at *
      have HWx := Lib.hid hX0
      clear hX0
      go_loopw [6, 7] (fun ov i wr => ∃ (m n : Nat) (bad : Bool) (lk : List Chg), m ≤ N ∧ i = .int .u64 m ∧ RdrIs wr x (.slice A b.length c) n bad ∧ n ≤ b.length ∧ lk.length = m ∧ ChgOwn wr (fun j => x < j) ov lk ∧ Hid (ChgB lk) ∧ Keeps (fun _ => False) w wr ∧ Hid (ReadAs b (b.drop n0) N m n bad lk)) (fun _ i _ => N - (intOf i).toNat)
      case atStart => exact ⟨0, n0, false, [], Nat.zero_le _, rfl, HB3.out, hn2, rfl, ChgOwn.nil _ _, Lib.hid (fun c hc => by cases hc), HK3.out, Lib.hid ⟨fun _ => by show _ = decPre [] (Sto.dChanges N (b.drop n0)); cases Sto.dChanges N (b.drop n0) <;> rfl, fun h => by cases h⟩⟩
      case round =>
        obtain ⟨m, n, bad, lk, hm, rfl, hbx, hn, rfl, hO, HBl, hkr, HC⟩ := hrel
        have hwx := HWx.out
        have hxr : x < wr.heap.size := by
          rcases Nat.lt_or_ge x wr.heap.size with h | h
          · exact h
          · exfalso
            unfold RdrIs at hbx
            rw [Array.getElem?_eq_none h] at hbx
            cases hbx
        have hwr := hkr.size
        obtain ⟨Al, cl, rfl, _⟩ := hO.slice
        have HO := Lib.hid hO
        have HBx := Lib.hid hbx
        have HKr := Lib.hid hkr
        have HRr := Lib.hid (HR.out.kept hkr (fun _ _ h => h))
        have cbad : wr.cell? ⟨x, 2, none⟩ = some (.bool bad) := cell_of_row wr x 2 _ _ _ hbx
        clear hbx hO hkr
        have HEn := Lib.hid (fun (w' : World) (h : Chgs w' (fun j => x < j ∧ j < w'.heap.size) (.slice Al lk.length cl) lk) => rencode_c lk HBl.out (by omega) _ h (fun j h => h.2))
        have HCs := Lib.hid ((HO.out.mono (ok' := fun j => x < j ∧ j < wr.heap.size) (fun j hj h => ⟨h, hj⟩)).chgs)
        cases bad with
        | true =>
          have HE := Lib.hid (show Sto.dDec b = ([], 4) by rw [HD2.out, HC.out.2 rfl]; rfl)
          clear HC
          by_cases hlt : lk.length < N
          · go_wp2_with (first
              | (go_at_call 13; refine Rets.use (HEn.out _ HCs.out) ?_; rintro _ w2 ⟨hk2, u2, rfl, hO2⟩; have cb2 := hk2.cell cbad (fun h => h)))
            go_ret2
            rw [HE.out]
            exact decIs_no _ _ (HKr.out.trans hk2 (fun _ _ h => h))
          · obtain rfl : lk.length = N := by omega
            go_wp2_with (first
              | (go_at_call 13; refine Rets.use (HEn.out _ HCs.out) ?_; rintro _ w2 ⟨hk2, u2, rfl, hO2⟩; have cb2 := hk2.cell cbad (fun h => h)))
            go_ret2
            rw [HE.out]
            exact decIs_no _ _ (HKr.out.trans hk2 (fun _ _ h => h))
        | false =>
          by_cases hlt : lk.length < N
          · obtain ⟨⟨t, n1, b1⟩, hq1⟩ : ∃ q, byteF b n false = q := ⟨_, rfl⟩
            obtain ⟨⟨k, n2, b2⟩, hq2⟩ : ∃ q, pieceF b n1 b1 = q := ⟨_, rfl⟩
            have hn1' := byteF_le hn
            rw [hq1] at hn1'
            have hn2' := pieceF_le b1 hn1'
            rw [hq2] at hn2'
            have hks := pieceF_sub HB.out n1 b1
            rw [hq2] at hks
            have HBy := Lib.hid (fun (w' : World) (h : RdrIs w' x (.slice A b.length c) n false) (hr' : Rd w' ok (.slice A b.length c) b.length (Disk.bytes8 b)) => rbyte_c hr' HX.out hl hn h)
            have HP1 := Lib.hid (fun (w' : World) (h : RdrIs w' x (.slice A b.length c) n1 b1) (hr' : Rd w' ok (.slice A b.length c) b.length (Disk.bytes8 b)) => rpiece_c hr' HX.out HB.out hl hn1' h)
            rw [hq1] at HBy
            rw [hq2] at HP1
            simp only at HBy HP1 hn1' hn2' hks
            have HKs := Lib.hid hks.1
            have hks2 := hks.2
            clear hks
            by_cases ht : t = 1
            · have hrd := round_del hn hq1 hq2 ht
              have HC2 := Lib.hid (HC.out.next hlt hrd.1 hrd.2)
              have HB2 := Lib.hid (show ChgB (lk ++ [⟨k, true, []⟩]) from fun d hd => by
                rcases List.mem_append.1 hd with hd | hd
                · exact HBl.out d hd
                · rw [List.mem_singleton] at hd; subst hd; exact ⟨HKs.out, IsB.nil, by show k.length ≤ 1000000; omega, by simp⟩)
              subst ht
              clear HC hq1 hq2 hrd
              go_wp2_with (first
                | ((with_reducible refine at_ 8 rfl ?_); go_must (refine step_alloc rfl _ rfl _ chgZ row_chg rfl ?_); intro w3 hb3 hk3 hs3)
                | ((with_reducible refine at_store 41 (.tmp 8) (.tmp 37) rfl ?_); go_must (refine step_store rfl _ _ _ rfl wr.heap.size 0 chgZ _ _ rfl rfl hb3 (by simp [chgZ]) info_chg (by simp [Value.oneCell', chgZ]) ?_); intro w4 hb4 hk4 hs4; rw [put_whole (by rfl)] at hb4; have hbx4 := hk4.heap (hk3.heap HBx.out (fun h => h)) (fun h => by omega); have HR4 := Lib.hid ((HRr.out.kept hk3 (fun _ _ h => h)).kept hk4 (fun j h e => by have := HOk.out j h; omega)))
                | (go_at_call 46; refine Rets.use (HBy.out _ hbx4 HR4.out) ?_; rintro _ w5 ⟨rfl, hbx5, hk5⟩; have hz5 := hk5.size; have hb5 := hk5.heap hb4 (fun h => by omega); have HR5 := Lib.hid (HR4.out.kept hk5 (fun j h e => HX.out j h e)))
                | (go_at_call 47; refine Rets.use (HP1.out _ hbx5 HR5.out) ?_; rintro v6 w6 ⟨hO6, hbx6, hk6⟩; have hz6 := hk6.size; have hb6 := hk6.heap hb5 (fun h => by omega))
                | ((with_reducible refine at_ 42 rfl ?_); go_must (refine step_bytes_str rfl _ _ _ rfl 5 under_rb under_ru under_rs v6 k rfl hO6.rd HKs.out ?_))
                | ((with_reducible refine at_store 9 (.tmp 43) (.tmp 42) rfl ?_); go_must (refine step_store1 rfl _ _ _ rfl wr.heap.size 0 (.string (str k)) _ _ rfl rfl rfl hb6 (by simp [chgZ]) info_str ?_); intro w7 hb7 hk7 hs7; have hbx7 := hk7.heap hbx6 (fun h => by omega); have HR7 := Lib.hid ((HR5.out.kept hk6 (fun j h e => HX.out j h e)).kept hk7 (fun j h e => by have := HOk.out j h; omega)); have HO7 := Lib.hid ((((((HO.out.mono (ok' := fun j => x < j ∧ j < wr.heap.size) (fun j hj h => ⟨h, hj⟩)).kept hk3 (fun _ _ h => h)).kept hk4 (fun j h e => by omega)).kept hk5 (fun j h e => by omega)).kept hk6 (fun j h e => by omega)).kept hk7 (fun j h e => by omega)); have HK7 := Lib.hid (((((hk3.mono (S' := fun j => j = x ∨ wr.heap.size ≤ j) (fun _ _ h => h.elim)).trans hk4 (fun j _ h => by rw [h]; exact .inr (Nat.le_refl _))).trans hk5 (fun j _ h => .inl h)).trans hk6 (fun j _ h => .inl h)).trans hk7 (fun j _ h => by rw [h]; exact .inr (Nat.le_refl _))))
                | ((with_reducible refine at_store 4 (.tmp 46) (.const (.bool true)) rfl ?_); go_must (refine step_store1 rfl _ _ _ rfl wr.heap.size 1 (.bool true) _ _ rfl rfl rfl hb7 (by simp [chgZ]) info_ro ?_); intro w8 hb8 hk8 hs8; have HO8 := Lib.hid (HO7.out.kept hk8 (fun j h e => by omega)); have HK8 := Lib.hid (HK7.out.trans hk8 (fun j _ h => by rw [h]; exact .inr (Nat.le_refl _))); have HX8 := Lib.hid (hk8.heap hbx7 (fun h => by omega)))
                | ((with_reducible refine at_ 51 rfl ?_); go_must (refine step_load rfl _ _ rfl wr.heap.size 0 (chgC (Chg.mk k true []) (.slice none 0 0)) _ _ _ _ rfl hb8 rfl Try.underlying41 rfl (info_chgC (Chg.mk k true []) (.slice none 0 0)) ?_))
                | ((with_reducible refine at_ 52 rfl ?_); go_must (refine step_lit rfl 22 _ 1 rfl [.agg (chgC (Chg.mk k true []) (.slice none 0 0)).toArray] rfl rfl (by decide) 41 _ 3 Try.underlying22 row2_chg (by decide) (by decide) (by intro v hv; rw [List.mem_singleton] at hv; subst hv; exact chgC_cells (Chg.mk k true []) (.slice none 0 0) (by first | rfl | exact hone8)) ?_); intro wa hba hka hsa)
                | ((with_reducible refine at_ 53 rfl ?_); go_must (refine step_push (ok := fun j => x < j) rfl _ _ rfl (.slice Al lk.length cl) lk rfl ((HO8.out.mono (fun j _ h => h.1)).kept hka (fun _ _ h => h)) (Chg.mk k true []) (.slice none 0 0) w8.heap.size rfl (by rw [hba]; exact congrArg _ (congrArg (fun z => Obj.cells z _ _) (chgC_flat (Chg.mk k true []) (.slice none 0 0) (by first | rfl | exact hone8)))) (OwnRow.kept (OwnRow.nil _ _ _ _) hka (fun _ _ h => h)) (fun j h e => by simp [Value.ownBlock] at e) (by omega) ?_); intro v10 w10 hO10 hk10; have hbx10 := hk10.heap (hka.heap HX8.out (fun h => h)) (fun e => by have h1 := (HO8.out.blk _ e).1; omega); have HK10 := Lib.hid (((HKr.out.mono (S' := fun j => x ≤ j) (fun _ _ h => h.elim)).trans (((HK8.out.mono (S' := fun j => x ≤ j) (fun j _ h => by omega)).trans hka (fun _ _ h => h.elim)).trans (hk10.mono (S' := fun j => x ≤ j) (fun j _ e => Nat.le_of_lt (HO8.out.blk j e).1)) (fun j _ h => h)) (fun _ _ h => h)).mono (S' := fun _ => False) (fun j hj h => by omega))))
              go_roundw
              case rel => exact ⟨lk.length + 1, n2, b2, lk ++ [⟨k, true, []⟩], hlt, by go_num, hbx10, hn2', by rw [List.length_append]; rfl, hO10.mono (fun j _ h => h.elim (fun h => h) (fun h => by omega)), HB2, HK10.out, HC2⟩
              case measure => simp [intOf]; omega
            · obtain ⟨⟨u, n3, b3⟩, hq3⟩ : ∃ q, pieceF b n2 b2 = q := ⟨_, rfl⟩
              have hrd := round_put hn hq1 hq2 hq3 ht
              have HC2 := Lib.hid (HC.out.next hlt hrd.1 hrd.2)
              have hn3' := pieceF_le b2 hn2'
              rw [hq3] at hn3'
              have hus := pieceF_sub HB.out n2 b2
              rw [hq3] at hus
              have HP2 := Lib.hid (fun (w' : World) (h : RdrIs w' x (.slice A b.length c) n2 b2) (hr' : Rd w' ok (.slice A b.length c) b.length (Disk.bytes8 b)) => rpiece_c hr' HX.out HB.out hl hn2' h)
              rw [hq3] at HP2
              simp only at HP2 hn3' hus
              have hus2 := hus.2
              have HB2 := Lib.hid (show ChgB (lk ++ [⟨k, false, u⟩]) from fun d hd => by
                rcases List.mem_append.1 hd with hd | hd
                · exact HBl.out d hd
                · rw [List.mem_singleton] at hd; subst hd; exact ⟨HKs.out, hus.1, by show k.length ≤ 1000000; omega, by show u.length ≤ 1000000; omega⟩)
              have ht' : (t == 1) = false := by rw [beq_eq_false_iff_ne]; exact ht
              clear HC hq1 hq2 hq3 hrd hus ht
              go_wp2_with (first
                | (go_at_call 47; refine Rets.use (HP2.out _ hbx7 HR7.out) ?_; rintro v8 w8 ⟨hO8, hbx8, hk8⟩; have hz8 := hk8.size; have hb8 := hk8.heap hb7 (fun h => by omega); have hone8 := Rd.one hO8.rd)
                | ((with_reducible refine at_ 8 rfl ?_); go_must (refine step_alloc rfl _ rfl _ chgZ row_chg rfl ?_); intro w3 hb3 hk3 hs3)
                | ((with_reducible refine at_store 41 (.tmp 8) (.tmp 37) rfl ?_); go_must (refine step_store rfl _ _ _ rfl wr.heap.size 0 chgZ _ _ rfl rfl hb3 (by simp [chgZ]) info_chg (by simp [Value.oneCell', chgZ]) ?_); intro w4 hb4 hk4 hs4; rw [put_whole (by rfl)] at hb4; have hbx4 := hk4.heap (hk3.heap HBx.out (fun h => h)) (fun h => by omega); have HR4 := Lib.hid ((HRr.out.kept hk3 (fun _ _ h => h)).kept hk4 (fun j h e => by have := HOk.out j h; omega)))
                | (go_at_call 46; refine Rets.use (HBy.out _ hbx4 HR4.out) ?_; rintro _ w5 ⟨rfl, hbx5, hk5⟩; have hz5 := hk5.size; have hb5 := hk5.heap hb4 (fun h => by omega); have HR5 := Lib.hid (HR4.out.kept hk5 (fun j h e => HX.out j h e)))
                | (go_at_call 47; refine Rets.use (HP1.out _ hbx5 HR5.out) ?_; rintro v6 w6 ⟨hO6, hbx6, hk6⟩; have hz6 := hk6.size; have hb6 := hk6.heap hb5 (fun h => by omega))
                | ((with_reducible refine at_ 42 rfl ?_); go_must (refine step_bytes_str rfl _ _ _ rfl 5 under_rb under_ru under_rs v6 k rfl hO6.rd HKs.out ?_))
                | ((with_reducible refine at_store 9 (.tmp 43) (.tmp 42) rfl ?_); go_must (refine step_store1 rfl _ _ _ rfl wr.heap.size 0 (.string (str k)) _ _ rfl rfl rfl hb6 (by simp [chgZ]) info_str ?_); intro w7 hb7 hk7 hs7; have hbx7 := hk7.heap hbx6 (fun h => by omega); have HR7 := Lib.hid ((HR5.out.kept hk6 (fun j h e => HX.out j h e)).kept hk7 (fun j h e => by have := HOk.out j h; omega)); have HO7 := Lib.hid ((((((HO.out.mono (ok' := fun j => x < j ∧ j < wr.heap.size) (fun j hj h => ⟨h, hj⟩)).kept hk3 (fun _ _ h => h)).kept hk4 (fun j h e => by omega)).kept hk5 (fun j h e => by omega)).kept hk6 (fun j h e => by omega)).kept hk7 (fun j h e => by omega)); have HK7 := Lib.hid (((((hk3.mono (S' := fun j => j = x ∨ wr.heap.size ≤ j) (fun _ _ h => h.elim)).trans hk4 (fun j _ h => by rw [h]; exact .inr (Nat.le_refl _))).trans hk5 (fun j _ h => .inl h)).trans hk6 (fun j _ h => .inl h)).trans hk7 (fun j _ h => by rw [h]; exact .inr (Nat.le_refl _))))
                | ((with_reducible refine at_store 23 (.tmp 49) (.tmp 48) rfl ?_); go_must (refine step_store1 rfl _ _ _ rfl wr.heap.size 2 v8 _ _ rfl rfl hone8 hb8 (by simp [chgZ]) info_bytes ?_); intro w9 hb9 hk9 hs9; have HO8 := Lib.hid ((HO7.out.kept hk8 (fun j h e => by omega)).kept hk9 (fun j h e => by omega)); have HU9 := Lib.hid ((hO8.mono (ok' := fun j => w7.heap.size ≤ j ∧ j < w8.heap.size) (fun j hj h => ⟨h, hj⟩)).kept hk9 (fun j h e => by omega)); have HK8 := Lib.hid ((HK7.out.trans hk8 (fun j _ h => .inl h)).trans hk9 (fun j _ h => by rw [h]; exact .inr (Nat.le_refl _))); have HX8 := Lib.hid (hk9.heap hbx8 (fun h => by omega)))
                | ((with_reducible refine at_ 51 rfl ?_); go_must (refine step_load rfl _ _ rfl wr.heap.size 0 (chgC (Chg.mk k false u) v8) _ _ _ _ rfl hb9 rfl Try.underlying41 rfl (info_chgC (Chg.mk k false u) v8) ?_))
                | ((with_reducible refine at_ 52 rfl ?_); go_must (refine step_lit rfl 22 _ 1 rfl [.agg (chgC (Chg.mk k false u) v8).toArray] rfl rfl (by decide) 41 _ 3 Try.underlying22 row2_chg (by decide) (by decide) (by intro v hv; rw [List.mem_singleton] at hv; subst hv; exact chgC_cells (Chg.mk k false u) v8 (by first | rfl | exact hone8)) ?_); intro wa hba hka hsa)
                | ((with_reducible refine at_ 53 rfl ?_); go_must (refine step_push (ok := fun j => x < j) rfl _ _ rfl (.slice Al lk.length cl) lk rfl ((HO8.out.mono (fun j _ h => h.1)).kept hka (fun _ _ h => h)) (Chg.mk k false u) v8 w9.heap.size rfl (by rw [hba]; exact congrArg _ (congrArg (fun z => Obj.cells z _ _) (chgC_flat (Chg.mk k false u) v8 (by first | rfl | exact hone8)))) (OwnRow.kept (HU9.out.mono (fun j _ h => by omega)) hka (fun _ _ h => h)) (fun j h e => by have h1 := (HO8.out.blk j h); have h2 := (HU9.out.2 j e).1; omega) (by omega) ?_); intro v10 w10 hO10 hk10; have hbx10 := hk10.heap (hka.heap HX8.out (fun h => h)) (fun e => by have h1 := (HO8.out.blk _ e).1; omega); have HK10 := Lib.hid (((HKr.out.mono (S' := fun j => x ≤ j) (fun _ _ h => h.elim)).trans (((HK8.out.mono (S' := fun j => x ≤ j) (fun j _ h => by omega)).trans hka (fun _ _ h => h.elim)).trans (hk10.mono (S' := fun j => x ≤ j) (fun j _ e => Nat.le_of_lt (HO8.out.blk j e).1)) (fun j _ h => h)) (fun _ _ h => h)).mono (S' := fun _ => False) (fun j hj h => by omega))))
              go_roundw
              case rel => exact ⟨lk.length + 1, n3, b3, lk ++ [⟨k, false, u⟩], hlt, by go_num, hbx10, hn3', by rw [List.length_append]; rfl, hO10.mono (fun j _ h => h.elim (fun h => h) (fun h => by omega)), HB2, HK10.out, HC2⟩
              case measure => simp [intOf]; omega
          · obtain rfl : lk.length = N := by omega
            have HE1 := Lib.hid (show Sto.dDec b = if Sto.chk lk ≠ 0 ∨ Sto.encL lk ≠ b then ([], 4) else (lk, 0) by
              rw [HD2.out, HC.out.1 rfl, Nat.sub_self]
              show dEnd b (some (lk ++ [], b.drop n)) = _
              rw [List.append_nil]; rfl)
            clear HC
            by_cases hc0 : Sto.chk lk = 0
            · have HEe := Lib.hid (show Sto.enc lk = (Sto.encL lk, 0) by unfold Sto.enc; rw [if_neg (fun h => h hc0)])
              have HEl := Lib.hid (show (Sto.encL lk).length ≤ 100000 by
                have h1 := Sto.chk_good hc0
                have h2 := encs_len lk (fun c hc => ⟨(h1.1 c hc).2.1, (h1.1 c hc).2.2⟩)
                have h3 := varF_len lk.length
                unfold Sto.encL
                rw [List.length_append]; omega)
              rw [HEe.out] at HEn
              have hlen := HEl.out
              by_cases hsame : Sto.encL lk = b
              · have HE := Lib.hid (show Sto.dDec b = (lk, 0) by rw [HE1.out, if_neg (by rintro (h | h); exact h hc0; exact h hsame)])
                have HSd := Lib.hid (decide_eq_true hsame)
                generalize Sto.encL lk = el at *
                clear hsame
                go_wp2_with (first
                  | (go_at_call 13; refine Rets.use (HEn.out _ HCs.out) ?_; rintro _ w2 ⟨hk2, u2, rfl, hO2⟩; have cb2 := hk2.cell cbad (fun h => h))
                  | (go_at_call 16; refine Rets.use (same_c _ _ el b hO2.rd (HRr.out.kept hk2 (fun _ _ h => h)) (by omega)) ?_; rintro _ w3 ⟨rfl, hk3⟩; rw [HSd.out]))
                go_ret2
                rw [HE.out]
                exact ⟨HKr.out.trans (hk2.trans hk3 (fun _ _ h => h)) (fun _ _ h => h), _, rfl, ((HO.out.kept hk2 (fun _ _ h => h)).kept hk3 (fun _ _ h => h)).mono (fun j _ h => by omega)⟩
              · have HE := Lib.hid (show Sto.dDec b = ([], 4) by rw [HE1.out, if_pos (.inr hsame)])
                have HSd := Lib.hid (decide_eq_false hsame)
                generalize Sto.encL lk = el at *
                clear hsame
                go_wp2_with (first
                  | (go_at_call 13; refine Rets.use (HEn.out _ HCs.out) ?_; rintro _ w2 ⟨hk2, u2, rfl, hO2⟩; have cb2 := hk2.cell cbad (fun h => h))
                  | (go_at_call 16; refine Rets.use (same_c _ _ el b hO2.rd (HRr.out.kept hk2 (fun _ _ h => h)) (by omega)) ?_; rintro _ w3 ⟨rfl, hk3⟩; rw [HSd.out]))
                go_ret2
                rw [HE.out]
                exact decIs_no _ _ (HKr.out.trans (hk2.trans hk3 (fun _ _ h => h)) (fun _ _ h => h))
            · have HE := Lib.hid (show Sto.dDec b = ([], 4) by rw [HE1.out, if_pos (.inl hc0)])
              have HEe := Lib.hid (show Sto.enc lk = ([], Sto.chk lk) by unfold Sto.enc; rw [if_pos hc0])
              rw [HEe.out] at HEn
              have hq : (Sto.chk lk != 0) = true := by simpa using hc0
              generalize Sto.chk lk = e at *
              clear hc0
              go_wp2_with (first
                | (go_at_call 13; refine Rets.use (HEn.out _ HCs.out) ?_; rintro _ w2 ⟨hk2, u2, rfl, hO2⟩; have cb2 := hk2.cell cbad (fun h => h)))
              go_ret2
              rw [HE.out]
              exact decIs_no _ _ (HKr.out.trans hk2 (fun _ _ h => h))
  · have HE := Lib.hid (show Sto.dDec b = ([], 4) by rw [HD.out, if_pos (.inl he)])
    rw [if_pos he] at HNu
    simp only at HNu
    go_enter Try.func15, Try.ntmps15
    go_wp2_with (first
      | ((with_reducible refine at_ 14 rfl ?_); go_must (refine step_box rfl 92 _ rfl _ rfl [.slice A b.length c, .int .i64 0, .bool false] rfl ?_); intro w2 hb2 hk2 hs2)
      | (go_at_call 45; refine Rets.use (HNu.out _ (hbox _ hb2) hk2) ?_; rintro _ w3 ⟨rfl, hb3, hk3⟩; replace hk2 := hk2.mono (S' := (· = w.heap.size)) (fun _ _ h => h.elim); have cb3 : w3.cell? ⟨w.heap.size, 2, none⟩ = some (.bool _) := cell_of_row w3 _ 2 _ _ _ hb3))
    go_ret2
    rw [HE.out]
    exact decIs_no _ _ ((hk2.trans hk3 (fun _ _ h => h)).mono (fun j hj h => by omega))
end Go.Proofs.Ytbiohidelhfaiaa
end
