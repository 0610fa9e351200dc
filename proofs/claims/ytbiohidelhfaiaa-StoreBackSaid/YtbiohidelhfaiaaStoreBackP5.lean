/-
  Several texts in one:
  The walk of Decode.
  store.Open.
  A new disk, a new log: plainly.
  A store lives.
  Bytes out of a text, in a block of their own that bears a mark behind its end: they are read and set.
  The walks of the document's Check, Encode, Alike.
  Few; Cut of a text.
  Changes among a call's arguments; the texts of changes are bytes.
  StoreBack: the walk.
-/
import Derived.Lib.SlBytesConst
import Derived.Test.YtbiohidelhfaiaaStoreBackP0
import Derived.Test.YtbiohidelhfaiaaStoreBackP1
import Derived.Test.YtbiohidelhfaiaaStoreBackP2
import Derived.Test.YtbiohidelhfaiaaStoreBackP3
import Derived.Test.YtbiohidelhfaiaaStoreBackP4
section
namespace Go.Proofs.Ytbiohidelhfaiaa
open Go.RowKit Go.Canon Go.Mem
open Go.Proofs.Ytbiohidelhfaiaa.Sto (Chg)
set_option linter.unusedVariables false
set_option linter.unusedSimpArgs false
theorem change_sub {b r : List Int} {c : Chg} (hB : IsB b) (h : Sto.change b = some (c, r)) : IsB c.key ∧ IsB c.val ∧ c.key.length ≤ b.length ∧ c.val.length ≤ b.length ∧ IsB r ∧ r.length ≤ b.length := by
  unfold Sto.change at h
  cases b with
  | nil => cases h
  | cons t s =>
    simp only at h
    split at h
    · cases h
    · have hs : IsB s := fun x hx => hB x (List.mem_cons_of_mem _ hx)
      cases hp : Sto.piece s with
      | none => rw [hp] at h; cases h
      | some q =>
        obtain ⟨k, r2⟩ := q
        rw [hp] at h
        simp only at h
        obtain ⟨h1, h2, h3, h4⟩ := piece_sub hs hp
        rw [List.length_cons]
        split at h
        · simp only [Option.some.injEq, Prod.mk.injEq] at h
          obtain ⟨rfl, rfl⟩ := h
          exact ⟨h1, fun x hx => by simp at hx, by simp only; omega, by simp, h2, by omega⟩
        · cases hp2 : Sto.piece r2 with
          | none => rw [hp2] at h; cases h
          | some q =>
            obtain ⟨v, r3⟩ := q
            rw [hp2] at h
            simp only [Option.some.injEq, Prod.mk.injEq] at h
            obtain ⟨rfl, rfl⟩ := h
            obtain ⟨h5, h6, h7, h8⟩ := piece_sub h2 hp2
            exact ⟨h1, h5, by simp only; omega, by simp only; omega, h6, by omega⟩
def decEnd (m : Option (List Chg × List Int)) : List Chg × Int := match m with
  | none => ([], 4)
  | some (l, r) => if r ≠ [] ∨ Sto.chk l ≠ 0 then ([], 4) else (l, 0)
def decMore (x : Nat) (m : Option (Chg × List Int)) : Option (List Chg × List Int) := match m with
  | none => none
  | some (c, r) => match Sto.changes x r with
    | none => none
    | some (l, r2) => some (c :: l, r2)
def decPre (lk : List Chg) (m : Option (List Chg × List Int)) : Option (List Chg × List Int) := match m with
  | none => none
  | some (l, r) => some (lk ++ l, r)
theorem dec_eq (b : List Int) : Sto.dec b = if (Sto.rdF b).2.2 ≠ 0 ∨ 16 < (Sto.rdF b).1 then ([], 4) else decEnd (Sto.changes (Sto.rdF b).1 (b.drop (Sto.rdF b).2.1)) := by
  unfold Sto.dec decEnd
  rfl
theorem changes_eq (n : Nat) (b : List Int) : Sto.changes (n + 1) b = decMore n (Sto.change b) := by
  unfold decMore
  rw [Sto.changes]
  rfl
theorem decPre_more (lk : List Chg) (x : Nat) (c : Chg) (r : List Int) : decPre lk (decMore x (some (c, r))) = decPre (lk ++ [c]) (Sto.changes x r) := by
  unfold decPre decMore
  simp only
  cases Sto.changes x r with
  | none => rfl
  | some q => obtain ⟨l, r2⟩ := q; simp
theorem ChgOwn.blk {w : World} {ok : Nat → Prop} {v : Value} {l : List Chg} (h : ChgOwn w ok v l) : ∀ k, v.ownBlock = some k → ok k := by
  obtain ⟨vs, h1, h2, h3, h4⟩ := h
  exact h2.2
/-- Changes that were read, an error. -/
def DecIs (w : World) (p : List Chg × Int) : Value → World → Prop := fun v w' => Keeps (fun _ => False) w w' ∧ ∃ u, v = .tuple #[u, .int .i64 p.2] ∧ ChgOwn w' (fun j => w.heap.size ≤ j) u p.1
theorem decIs_no (w w' : World) (hk : Keeps (fun _ => False) w w') : DecIs w ([], 4) (.tuple #[.slice none 0 0, .int .i64 4]) w' := ⟨hk, _, rfl, ChgOwn.nil _ _⟩
theorem row2_chg : (Try.prog.info? 41).map (fun i => (i.zero, i.size)) = some (some (.agg #[.string ⟨#[]⟩, .bool false, .slice none 0 0]), 3) := by kernel_rfl
theorem cells_one {v : Value} (h : v.oneCell' = true) : v.cells = #[v] := by cases v <;> first | rfl | (simp [Value.oneCell'] at h)
theorem chgC_list (d : Chg) (u : Value) (h : u.oneCell' = true) : (Value.agg (chgC d u).toArray).cells = (chgC d u).toArray := by
  simp [Value.cells, chgC, cells_one h]
theorem chgC_cells (d : Chg) (u : Value) (h : u.oneCell' = true) : (Value.agg (chgC d u).toArray).cells.size = 3 := by
  rw [chgC_list d u h]; rfl
theorem chgC_flat (d : Chg) (u : Value) (h : u.oneCell' = true) : ([Value.agg (chgC d u).toArray].flatMap fun v => v.cells.toList).toArray = (chgC d u).toArray := by
  rw [List.flatMap_cons, List.flatMap_nil, List.append_nil, chgC_list d u h]
set_option maxHeartbeats 6400000 in
set_option maxRecDepth 100000 in
theorem decode_c {ok : Nat → Prop} {w : World} (v : Value) (b : List Int) (hr : Rd w ok v b.length (Disk.bytes8 b)) (hB : IsB b) (hl : b.length ≤ 1000000) (hok : ∀ j, ok j → j < w.heap.size) : Calls Try.prog 14 #[v] w (Rets (DecIs w (Sto.dec b))) := by
  obtain ⟨A, c, rfl, _⟩ := hr.slice
  have HR := Lib.hid hr
  have HB := Lib.hid hB
  have HV := Lib.hid (rdvar_c _ b hr hB hl)
  have HD := Lib.hid (dec_eq b)
  have hle := rd_le b
  have hx := rdF_lt b hB
  clear hr hB
  generalize Sto.rdF b = q at *
  obtain ⟨x, n, e⟩ := q
  simp only at HD HV hle hx
  by_cases he : e = 0
  · subst he
    obtain ⟨hn1, hn2⟩ := hle rfl
    clear hle
    by_cases h16 : 16 < x
    · have HE := Lib.hid (show Sto.dec b = ([], 4) by rw [HD.out, if_pos (.inr h16)])
      go_enter Try.func14, Try.ntmps14
      go_wp2_with (go_at_call 43; refine Rets.use HV.out ?_; rintro _ _ ⟨rfl, rfl⟩)
      go_ret2
      rw [HE.out]
      exact decIs_no _ _ (Keeps.refl _ _)
    · have HD2 := Lib.hid (show Sto.dec b = decEnd (Sto.changes x (b.drop n)) by rw [HD.out, if_neg (by rintro (h | h); exact h rfl; exact h16 h)])
      have hx16 : x ≤ 16 := by omega
      have HB0 := Lib.hid (show IsB (b.drop n) from fun y hy => HB.out y (List.drop_subset _ _ hy))
      have hbl : (b.drop n).length ≤ 1000000 := by rw [List.length_drop]; omega
      have hnl : b.length - n = (b.drop n).length := by rw [List.length_drop]
      go_enter Try.func14, Try.ntmps14
      go_wp2_with (first
        | (go_at_call 43; refine Rets.use HV.out ?_; rintro _ _ ⟨rfl, rfl⟩)
        | ((with_reducible refine at_ 25 rfl ?_); go_loud (refine step_slice_from rfl _ _ _ rfl 5 under_elem info_elem A b.length c n .i64 _ rfl rfl hn2 HR.out (Disk.bytes8_len b) ?_); intro v3 hr3))
      rw [drop8, hnl] at hr3
      generalize b.drop n = b0 at *
      have HR3 := Lib.hid hr3
      clear hr3
      go_loopw [0, 7, 27] (fun bv lv iv wr => ∃ (k : Nat) (rb : List Int) (lk : List Chg), k ≤ x ∧ iv = .int .u64 k ∧ Keeps (fun _ => False) w wr ∧ Rd wr ok bv rb.length (Disk.bytes8 rb) ∧ Hid (IsB rb ∧ ChgB lk) ∧ rb.length ≤ 1000000 ∧ lk.length = k ∧ ChgOwn wr (fun j => w.heap.size ≤ j) lv lk ∧ Hid (Sto.changes x b0 = decPre lk (Sto.changes (x - k) rb))) (fun _ _ iv _ => x - (intOf iv).toNat)
      case atStart => exact ⟨0, b0, [], Nat.zero_le _, rfl, Keeps.refl _ _, HR3.out, Lib.hid ⟨HB0.out, fun c hc => by cases hc⟩, hbl, rfl, ChgOwn.nil _ _, Lib.hid (by rw [Nat.sub_zero]; unfold decPre; cases Sto.changes x b0 <;> rfl)⟩
      case round =>
        obtain ⟨k, rb, lk, hk, rfl, hkr, hrb, HBB, hrl, hlk, hO, HC⟩ := hrel
        subst hlk
        have HKr := Lib.hid hkr
        have HRb := Lib.hid hrb
        have HO := Lib.hid hO
        have hwr := hkr.size
        obtain ⟨Al, cl, rfl, _⟩ := hO.slice
        obtain ⟨Ab, cb, rfl, _⟩ := hrb.slice
        by_cases hlt : lk.length < x
        · have HCh := Lib.hid (change_c _ rb hrb HBB.out.1 hrl (fun j hj => by have := hok j hj; omega))
          have HC2 := Lib.hid (show Sto.changes x b0 = decPre lk (decMore (x - (lk.length + 1)) (Sto.change rb)) by rw [HC.out, show x - lk.length = x - (lk.length + 1) + 1 by omega, changes_eq])
          clear hkr hrb hO HC
          cases hch : Sto.change rb with
          | none =>
            rw [hch] at HCh HC2
            have HE := Lib.hid (show Sto.dec b = ([], 4) by rw [HD2.out, HC2.out]; rfl)
            clear HC2
            go_wp2_with (first
              | (go_at_call 44; refine Rets.use HCh.out ?_; rintro _ w4 ⟨hk4, ch, vV, a4, rfl, hone⟩)
              | ((with_reducible refine at_ 8 rfl ?_); go_must (refine step_alloc rfl _ rfl _ chgZ row_chg rfl ?_); intro w5 hb5 hk5 hs5)
              | ((with_reducible refine at_store 41 (.tmp 8) (.tmp 32) rfl ?_); go_must (refine step_store rfl _ _ _ rfl w4.heap.size 0 (chgC ch vV) _ _ rfl rfl hb5 (by simp [chgZ, chgC]) (info_chgC ch vV) (by simp [Value.oneCell', chgC]; exact hone) ?_); intro w6 hb6 hk6 hs6))
            go_ret2
            rw [HE.out]
            exact decIs_no _ _ (((HKr.out.trans hk4 (fun _ _ h => h)).trans hk5 (fun _ _ h => h)).mono (S' := fun j => w.heap.size ≤ j) (fun _ _ h => h.elim) |>.trans hk6 (fun j _ h => by have := hk4.size; omega) |>.mono (fun j hj h => by omega))
          | some q =>
            obtain ⟨d, r2⟩ := q
            obtain ⟨hs1, hs2, hs3, hs4, hs5, hs6⟩ := change_sub HBB.out.1 hch
            rw [hch] at HCh HC2
            have HC3 := Lib.hid (show Sto.changes x b0 = decPre (lk ++ [d]) (Sto.changes (x - (lk.length + 1)) r2) by rw [HC2.out, decPre_more])
            have HBB2 := Lib.hid (show IsB r2 ∧ ChgB (lk ++ [d]) from ⟨hs5, fun c hc => by
              rcases List.mem_append.1 hc with hc | hc
              · exact HBB.out.2 c hc
              · rw [List.mem_singleton] at hc; subst hc; exact ⟨hs1, hs2, by omega, by omega⟩⟩)
            clear HC2 hch hs1 hs2 hs5
            go_wp2_with (first
              | (go_at_call 44; refine Rets.use HCh.out ?_; rintro _ w4 ⟨hk4, vV, a4, rfl, hOv, hra⟩; have hone := Rd.one hOv.rd; have hz4 := hk4.size)
              | ((with_reducible refine at_ 8 rfl ?_); go_must (refine step_alloc rfl _ rfl _ chgZ row_chg rfl ?_); intro w5 hb5 hk5 hs5)
              | ((with_reducible refine at_store 41 (.tmp 8) (.tmp 32) rfl ?_); go_must (refine step_store rfl _ _ _ rfl w4.heap.size 0 (chgC d vV) _ _ rfl rfl hb5 (by simp [chgZ, chgC]) (info_chgC d vV) (by simp [Value.oneCell', chgC]; exact hone) ?_); intro w6 hb6 hk6 hs6; rw [put_whole (by rfl)] at hb6; have HK6 := Lib.hid (((HKr.out.trans hk4 (fun _ _ h => h)).trans hk5 (fun _ _ h => h)).mono (S' := fun j => w.heap.size ≤ j) (fun _ _ h => h.elim) |>.trans hk6 (fun j _ h => by omega) |>.mono (S' := fun _ => False) (fun j hj h => by omega)); have HO6 := Lib.hid ((((HO.out.mono (ok' := fun j => w.heap.size ≤ j ∧ j < wr.heap.size) (fun j hj h => ⟨h, hj⟩)).kept hk4 (fun _ _ h => h)).kept hk5 (fun _ _ h => h)).kept hk6 (fun j h e => by omega)); have HV6 := Lib.hid ((((hOv.mono (ok' := fun j => wr.heap.size ≤ j ∧ j < w4.heap.size) (fun j hj h => ⟨h, hj⟩)).kept hk5 (fun _ _ h => h)).kept hk6 (fun j h e => by omega))); have HA6 := Lib.hid (((hra.kept hk5 (fun _ _ h => h))).kept hk6 (fun j h e => by have := hok j h; omega)))
              | ((with_reducible refine at_ 38 rfl ?_); go_must (refine step_load rfl _ _ rfl w4.heap.size 0 (chgC d vV) _ _ _ _ rfl hb6 rfl Try.underlying41 rfl (info_chgC d vV) ?_))
              | ((with_reducible refine at_ 39 rfl ?_); go_must (refine step_lit rfl 22 _ 1 rfl [.agg (chgC d vV).toArray] rfl rfl (by decide) 41 _ 3 Try.underlying22 row2_chg (by decide) (by decide) (by intro v hv; rw [List.mem_singleton] at hv; subst hv; exact chgC_cells d vV hone) ?_); intro w7 hb7 hk7 hs7)
              | ((with_reducible refine at_ 40 rfl ?_); go_must (refine step_push (ok := fun j => w.heap.size ≤ j) rfl _ _ rfl (.slice Al lk.length cl) lk rfl ((HO6.out.mono (fun j _ h => h.1)).kept hk7 (fun _ _ h => h)) d vV w6.heap.size rfl (by rw [hb7]; exact congrArg _ (congrArg (fun z => Obj.cells z _ _) (chgC_flat d vV hone))) ((HV6.out.mono (fun j _ h => Nat.le_trans hwr h.1)).kept hk7 (fun _ _ h => h)) (fun j h e => by have h1 := (HO6.out.blk j h).2; have h2 := (HV6.out.2 j e).1; omega) (by omega) ?_); intro v8 w8 hO8 hk8; have HK8 := Lib.hid ((HK6.out.trans hk7 (fun _ _ h => h)).mono (S' := fun j => w.heap.size ≤ j) (fun _ _ h => h.elim) |>.trans hk8 (fun j _ h => (HO6.out.blk j h).1) |>.mono (S' := fun _ => False) (fun j hj h => by omega))))
            go_roundw
            case rel => exact ⟨lk.length + 1, r2, lk ++ [d], hlt, by go_num, HK8.out, (HA6.out.kept hk7 (fun _ _ h => h)).kept hk8 (fun j h e => by have h1 := (HO6.out.blk j e).1; have := hok j h; omega), HBB2, by omega, by rw [List.length_append]; rfl, hO8.mono (fun j _ h => h.elim (fun h => h) (fun h => by have := hk7.size; omega)), HC3⟩
            case measure => simp [intOf]; omega
        · obtain rfl : lk.length = x := by omega
          have HE1 := Lib.hid (show Sto.dec b = if rb ≠ [] ∨ Sto.chk lk ≠ 0 then ([], 4) else (lk, 0) by
            rw [HD2.out, HC.out, Nat.sub_self]
            show decEnd (some (lk ++ [], rb)) = _
            rw [List.append_nil]; rfl)
          clear hkr hrb hO HC
          by_cases hrb0 : rb = []
          · subst hrb0
            have HCk := Lib.hid (fun (w' : World) (h : Chgs w' (fun j => w.heap.size ≤ j ∧ j < w'.heap.size) (.slice Al lk.length cl) lk) => check_c lk HBB.out.2 (by omega) _ h (fun j h => h.2))
            have HCs := Lib.hid ((HO.out.mono (ok' := fun j => w.heap.size ≤ j ∧ j < wr.heap.size) (fun j hj h => ⟨h, hj⟩)).chgs)
            by_cases hc0 : Sto.chk lk = 0
            · have HE := Lib.hid (show Sto.dec b = (lk, 0) by rw [HE1.out, if_neg (by rintro (h | h); exact h rfl; exact h hc0)])
              rw [hc0] at HCk
              go_wp2_with (go_at_call 18; refine Rets.use (HCk.out _ HCs.out) ?_; rintro _ w2 ⟨rfl, hk2⟩)
              go_ret2
              rw [HE.out]
              exact ⟨HKr.out.trans hk2 (fun _ _ h => h), _, rfl, HO.out.kept hk2 (fun _ _ h => h)⟩
            · have HE := Lib.hid (show Sto.dec b = ([], 4) by rw [HE1.out, if_pos (.inr hc0)])
              have hq : (Sto.chk lk != 0) = true := by simpa using hc0
              generalize Sto.chk lk = e at *
              go_wp2_with (go_at_call 18; refine Rets.use (HCk.out _ HCs.out) ?_; rintro _ w2 ⟨rfl, hk2⟩)
              go_ret2
              rw [HE.out]
              exact decIs_no _ _ (HKr.out.trans hk2 (fun _ _ h => h))
          · have HE := Lib.hid (show Sto.dec b = ([], 4) by rw [HE1.out, if_pos (.inl hrb0)])
            have hpos : 0 < rb.length := List.length_pos_iff.2 hrb0
            go_wp2
            go_ret2
            rw [HE.out]
            exact decIs_no _ _ HKr.out
  · have HE := Lib.hid (show Sto.dec b = ([], 4) by rw [HD.out, if_pos (.inl he)])
    have hq : (e != 0) = true := by simpa using he
    go_enter Try.func14, Try.ntmps14
    go_wp2_with (go_at_call 43; refine Rets.use HV.out ?_; rintro _ _ ⟨rfl, rfl⟩)
    go_ret2
    rw [HE.out]
    exact decIs_no _ _ (Keeps.refl _ _)
end Go.Proofs.Ytbiohidelhfaiaa
end

section
namespace Go.Proofs.Ytbiohidelhfaiaa
open Go.RowKit Go.Canon Go.Mem Go.Args
open Go.Disk (St)
open Go.Proofs.Ytbiohidelhfaiaa.Sto (Chg)
set_option linter.unusedVariables false
set_option linter.unusedSimpArgs false
namespace Sto
/-- The changes of texts, one text behind the other; how many they are. -/
def loadP : (Mp × Int) × Nat → List (List Int) → Int × (Mp × Int) × Nat
  | s, [] => (0, s)
  | s, t :: r => if (dec t).2 ≠ 0 then ((dec t).2, s) else loadP (doF s.1 (dec t).1, s.2 + (dec t).1.length) r
end Sto
def openS (s : St) (q : Int) : Int × Option StoS × St :=
  if q < 0 then (2, none, s)
  else match openP s with
    | (e, none, s') => (e, none, s')
    | (_, some L, s') => if (Sto.loadP (([], 0), 0) L.texts).1 ≠ 0 then ((Sto.loadP (([], 0), 0) L.texts).1, none, s')
      else (0, some ⟨L, q, (Sto.loadP (([], 0), 0) L.texts).2.1.1, (Sto.loadP (([], 0), 0) L.texts).2.1.2, (Sto.loadP (([], 0), 0) L.texts).2.2⟩, s')
theorem openP_err (s : St) : ((openP s).2.1 = none → (openP s).1 ≠ 0) ∧ ∀ L, (openP s).2.1 = some L → (openP s).1 = 0 := by
  unfold openP
  split
  · exact ⟨fun _ h => (by cases h), fun L h => by cases h⟩
  · cases scan (flatS s.now) s.now.length (s.now.length + 1) [] 0 with
    | none => exact ⟨fun _ h => (by cases h), fun L h => by cases h⟩
    | some q =>
      obtain ⟨ls, nx⟩ := q
      simp only
      split
      · exact ⟨fun h => (by cases h), fun L _ => rfl⟩
      · rename_i h
        exact ⟨fun _ => h, fun L h => by cases h⟩
/-- A disk in memory, apart. -/
def DL (W w : World) (g : Nat) (s : St) : Prop := Keeps (fun _ => False) W w ∧ ∃ P : Nat → Prop, DIs w P g s ∧ ∀ k, P k → W.heap.size ≤ k ∧ k < w.heap.size
theorem keyB {k : List Int} (h : Sto.keyF k = true) : IsB k := by
  unfold Sto.keyF at h
  simp only [Bool.and_eq_true, decide_eq_true_eq, List.all_eq_true] at h
  intro x hx
  have := h.1 x hx
  unfold Sto.keyC at this
  simp only [Bool.and_eq_true, decide_eq_true_eq] at this
  omega
theorem dec_chgB {b : List Int} (hB : IsB b) : ChgB (Sto.dec b).1 ∧ (Sto.dec b).1.length ≤ 16 ∧ ((Sto.dec b).2 = 0 ∨ (Sto.dec b).2 = 4) := by
  rcases Sto.dec_cases b hB with h | ⟨l, h, e, hc⟩
  · rw [h]; exact ⟨fun c hc => (by cases hc), by decide, .inr rfl⟩
  · rw [h]
    obtain ⟨h1, h2, h3⟩ := Sto.chk_good hc
    refine ⟨fun c hc => ?_, h3, .inl rfl⟩
    obtain ⟨h4, h5, h6⟩ := h1 c hc
    have hk := h5
    unfold Sto.keyF at hk
    simp only [Bool.and_eq_true, decide_eq_true_eq] at hk
    refine ⟨keyB h5, fun y hy => ?_, by omega, by omega⟩
    apply hB y
    rw [e]
    unfold Sto.encL
    refine List.mem_append_right _ (List.mem_flatMap.2 ⟨c, hc, ?_⟩)
    unfold Sto.enc1
    cases hd : c.del with
    | true => rw [h4.d hd] at hy; cases hy
    | false => simp [Sto.counted, hy]
section
variable {ops : Array Oper} {op : Oper} {rest : List Oper} {a : Act} {w : World} {Q : Exit → Act → World → Prop}
/-- map[..]..{}. -/
theorem step_makeMap (hgd : Region.wanted op (yielded ops a.tmps) = true) (ho : op.op = Op.makeMap 80 none)
    (h : ∀ w', MapIs w' w.heap.size (fun _ => False) 0 [] → Keeps (fun _ => False) w w' → w'.heap.size = w.heap.size + 1 → wpList Try.prog ops Q rest (a.put op.dst (.map (some w.heap.size))) w') : wpList Try.prog ops Q (op :: rest) a w := by
  refine plain_ hgd fun K hK => ?_
  unfold Oper.wp execOp
  simp only [ho, Option.map_none, Sem.run_bind, run_makeMap, Result.andThen_ok, Sem.run_pure]
  exact hK _ _ (h _ ⟨_, World.ownsMap_made w Try.prog 9 Rv, fun k _ => rfl⟩ ((Keeps.refl _ w).alloc _) (by simp))
end
def OpnPost (W : World) (g : Nat) (r : Int × Option StoS × St) : Value → World → Prop := fun v w' => match r.2.1 with
  | none => v = .tuple #[.pointer none, .int .i64 r.1] ∧ DL W w' g r.2.2
  | some S => ∃ x, v = .tuple #[.pointer (some ⟨x, 0, none⟩), .int .i64 0] ∧ SL W w' g x r.2.2 S
set_option maxHeartbeats 12800000 in
set_option maxRecDepth 100000 in
theorem open_c {W w : World} {g : Nat} {s : St} (h : DL W w g s) (q : Int) (few : s.opn.length ≤ 900000) (hB : IsB (flatS s.now)) (hL : ∀ L, (openP s).2.1 = some L → L.texts.length ≤ 4096 ∧ ∀ t ∈ L.texts, IsB t ∧ t.length ≤ 1000000) : Calls Try.prog 24 #[.pointer (some ⟨g, 0, none⟩), .int .i64 q] w (Rets (OpnPost W g (openS s q))) := by
  have HD := Lib.hid h
  obtain ⟨h0, P, hd, hP⟩ := h
  have hz0 := h0.size
  have HW := Lib.hid h0
  have HP := Lib.hid hP
  have HO := Lib.hid (wopen_c hd few hB)
  have HL := Lib.hid hL
  clear h0 hd hP hL hB
  by_cases hq : q < 0
  · have HE := Lib.hid (show openS s q = (2, none, s) by unfold openS; rw [if_pos hq])
    go_enter Try.func24, Try.ntmps24
    go_wp2
    go_ret2
    rw [HE.out]
    exact ⟨rfl, HD.out⟩
  · have HE0 := Lib.hid (show openS s q = match openP s with
      | (e, none, s') => (e, none, s')
      | (_, some L, s') => if (Sto.loadP (([], 0), 0) L.texts).1 ≠ 0 then ((Sto.loadP (([], 0), 0) L.texts).1, none, s')
        else (0, some ⟨L, q, (Sto.loadP (([], 0), 0) L.texts).2.1.1, (Sto.loadP (([], 0), 0) L.texts).2.1.2, (Sto.loadP (([], 0), 0) L.texts).2.2⟩, s') by unfold openS; rw [if_neg hq])
    have HE4 := Lib.hid (openP_err s)
    generalize openP s = r at *
    obtain ⟨e, oL, s'⟩ := r
    cases oL with
    | none =>
      have HE := Lib.hid (show openS s q = (e, none, s') from HE0.out)
      have hqe : (e != 0) = true := by simpa using (HE4.out.1 rfl : e ≠ 0)
      go_enter Try.func24, Try.ntmps24
      go_wp2_with (go_at_call 50; refine Rets.use HO.out ?_; rintro v2 w2 ⟨hk2, Q2, hQ2, hd2, hv2⟩; obtain ⟨_, rfl⟩ := hv2.resolve_right (fun ⟨_, _, h, _⟩ => by cases h))
      go_ret2
      rw [HE.out]
      have hz2 := hk2.size
      exact ⟨rfl, HW.out.trans hk2 (fun k hk h => by have := HP.out k h; omega), _, hd2.bound, fun k hk => ⟨hk.1.1.elim (fun h => (HP.out k h).1) (fun h => by omega), hk.2⟩⟩
    | some L =>
      obtain ⟨hL1, hL2⟩ := HL.out L rfl
      have HL2 := Lib.hid hL2
      have he0 : e = 0 := HE4.out.2 L rfl
      subst he0
      have HE1 := Lib.hid (show openS s q = if (Sto.loadP (([], 0), 0) L.texts).1 ≠ 0 then ((Sto.loadP (([], 0), 0) L.texts).1, none, s')
        else (0, some ⟨L, q, (Sto.loadP (([], 0), 0) L.texts).2.1.1, (Sto.loadP (([], 0), 0) L.texts).2.1.2, (Sto.loadP (([], 0), 0) L.texts).2.2⟩, s') from HE0.out)
      clear hL2 HE0 HL
      go_enter Try.func24, Try.ntmps24
      go_wp2_with (first
        | (go_at_call 50; refine Rets.use HO.out ?_; rintro v2 w2 ⟨hk2, Q2, hQ2, hd2, hv2⟩; obtain ⟨L2, y, e2, rfl, hm2⟩ := hv2.resolve_left (fun h => by cases h.1); cases e2; have hz2 := hk2.size)
        | ((with_reducible refine at_ 25 rfl ?_); go_must (refine step_makeMap rfl rfl ?_); intro w3 hM3 hk3 hs3)
        | ((with_reducible refine at_ 27 rfl ?_); go_must (refine step_box rfl 82 _ rfl _ rfl (stoC (.pointer (some ⟨y, 0, none⟩)) q 0 w2.heap.size) rfl ?_); intro w4 hb4 hk4 hs4)
        | (go_at_call 51; go_loud (refine Rets.use (texts_c ((hm2.kept hk3 (fun _ _ h => h)).kept hk4 (fun _ _ h => h)) hL1 (fun t ht => (HL2.out t ht).2)) ?_); rintro v5 w5 ⟨hk5, vs, hO5, hr5⟩; obtain ⟨A5, c5, rfl, _⟩ := hO5.slice))
      have hkk : Keeps (fun _ => False) w2 w5 := (hk3.trans hk4 (fun _ _ h => h)).trans hk5 (fun _ _ h => h)
      have hz5 := hk5.size
      have HS5 := Lib.hid (show SIs w5 (w2.heap.size + 1) w2.heap.size (fun j => w5.heap.size ≤ j) (.pointer (some ⟨y, 0, none⟩)) q 0 ([], 0) from ⟨hs3 ▸ hk5.heap hb4 (fun h => h), ((hM3.kept hk4 (fun h => h) (fun _ h _ => h)).kept hk5 (fun h => h) (fun _ h _ => h)).mono (Nat.le_refl _) (fun _ _ h => h.elim), by omega, by omega, by omega⟩)
      have HM5 := Lib.hid (hm2.kept hkk (fun _ _ h => h))
      have HD5 := Lib.hid (hd2.bound.kept hkk (fun _ _ h => h))
      have HW5 := Lib.hid ((HW.out.trans hk2 (fun k hk h => by have := HP.out k h; omega)).trans hkk (fun _ _ h => h))
      have HR5 := Lib.hid hr5
      have HO5 := Lib.hid hO5
      have HQ2 := Lib.hid hQ2
      have hx5 : w2.heap.size + 2 ≤ w5.heap.size := by omega
      have hw2 : w.heap.size ≤ w2.heap.size := hz2
      have hw4 : w4.heap.size = w2.heap.size + 2 := by omega
      rw [hw4] at HR5 HO5
      generalize hbmx : w2.heap.size = bm at *
      clear hk2 hQ2 hd2 hv2 hm2 hM3 hk3 hs3 hb4 hk4 hs4 hk5 hO5 hr5 hkk
      go_loopw [31] (fun i wr => ∃ (k : Nat) (st : (Sto.Mp × Int) × Nat), k ≤ L.texts.length ∧ i = .int .i64 k ∧ Keeps (fun j => j = bm + 1 ∨ j = bm) w5 wr ∧ SIs wr (bm + 1) bm (fun j => w5.heap.size ≤ j ∧ j < wr.heap.size) (.pointer (some ⟨y, 0, none⟩)) q st.2 st.1 ∧ -(64000000 * (k : Int)) ≤ st.1.2 ∧ st.1.2 ≤ 64000000 * k ∧ st.2 ≤ 16 * k ∧ Hid (Sto.loadP (([], 0), 0) L.texts = Sto.loadP st (L.texts.drop k))) (fun i _ => L.texts.length - (intOf i).toNat)
      case atStart => exact ⟨0, (([], 0), 0), Nat.zero_le _, rfl, Keeps.refl _ _, ⟨HS5.out.blk, HS5.out.map.mono (Nat.le_refl _) (fun j hj h => ⟨h, hj⟩), fun h => by omega, fun h => by omega, by omega⟩, by simp, by simp, by simp, Lib.hid rfl⟩
      case round =>
        obtain ⟨k, st, hk, rfl, hkr, hSr, hu1, hu2, hn, HF⟩ := hrel
        have HKr := Lib.hid hkr
        have HSr := Lib.hid hSr
        have hwr := hkr.size
        by_cases hlt : k < L.texts.length
        · obtain ⟨u, hu, hru⟩ := HR5.out k _ (List.getElem?_eq_getElem hlt)
          obtain ⟨hBt, hlt2⟩ := HL2.out _ (List.getElem_mem hlt)
          obtain ⟨g5, cap5, cur5, e5, hg5, hb5, _⟩ := HO5.out.form (by omega)
          cases e5
          have cu := hkr.cell (HO5.out.cells rfl k u hu) (fun e => by rcases e with e | e <;> (simp only at e; omega))
          have hru2 := ((hru.mono (ok' := fun j => bm + 2 ≤ j ∧ j < wr.heap.size) (fun j h => ⟨h.1, by omega⟩)).kept hkr (fun j h e => by omega))
          have HDc := Lib.hid (decode_c u L.texts[k] hru2 hBt hlt2 (fun j h => h.2))
          obtain ⟨hCB, hC16, hCe⟩ := dec_chgB hBt
          have HN := Lib.hid (show Sto.loadP (([], 0), 0) L.texts = if (Sto.dec L.texts[k]).2 ≠ 0 then ((Sto.dec L.texts[k]).2, st) else Sto.loadP (Sto.doF st.1 (Sto.dec L.texts[k]).1, st.2 + (Sto.dec L.texts[k]).1.length) (L.texts.drop (k + 1)) by rw [HF.out, List.drop_eq_getElem_cons hlt, Sto.loadP])
          generalize Sto.dec L.texts[k] = d at *
          obtain ⟨l, e⟩ := d
          simp only at hCB hC16 hCe HN
          obtain ⟨Au, cu', rfl, _⟩ := hru.slice
          have HCB := Lib.hid hCB
          clear hu hru hru2 hBt hb5 hkr hSr HF hCB
          by_cases he : e = 0
          · subst he
            have HN2 := Lib.hid (HN.out.trans (if_neg (fun h => h rfl)))
            clear hCe HN
            go_wp2_with (first
              | (go_at_call 14; refine Rets.use HDc.out ?_; rintro v6 w6 ⟨hk6, u6, rfl, hO6⟩; have hz6 := hk6.size; have HO6 := Lib.hid (hO6.mono (ok' := fun j => wr.heap.size ≤ j ∧ j < w6.heap.size) (fun j hj h => ⟨h, hj⟩)))
              | (go_at_call 52; refine Rets.use (do_b (HSr.out.kept0 hk6) (fun j h => by omega) l HCB.out (by omega) (by omega) ⟨by omega, by omega⟩ _ HO6.out.chgs (fun j h => ⟨h.2, by omega, by omega⟩)) ?_; rintro _ w7 ⟨⟨rfl, hk7, hS7⟩, hu7, hu8⟩))
            have hz7 := hk7.size
            go_roundw
            case rel => exact ⟨k + 1, (Sto.doF st.1 l, st.2 + l.length), hlt, by go_num, (HKr.out.trans hk6 (fun _ _ h => h.elim)).trans hk7 (fun _ _ h => h), ⟨hS7.blk, hS7.map.mono (Nat.le_refl _) (fun j hj h => ⟨h.elim (fun h => h.1) (fun h => by omega), hj⟩), fun h => by omega, fun h => by omega, hS7.ne⟩, by simp only; omega, by simp only; omega, by simp only; omega, HN2⟩
            case measure => simp [intOf]; omega
          · have HN2 := Lib.hid (HN.out.trans (if_pos he))
            have hqe : (e != 0) = true := by simpa using he
            go_wp2_with (first
              | (go_at_call 14; refine Rets.use HDc.out ?_; rintro v6 w6 ⟨hk6, u6, rfl, hO6⟩; have hz6 := hk6.size))
            go_ret2
            have HE := Lib.hid (show openS s q = (e, none, s') by rw [HE1.out, HN2.out]; exact if_pos he)
            rw [HE.out]
            have hk56 := HKr.out.trans hk6 (fun _ _ h => h.elim)
            exact ⟨rfl, HW5.out.trans hk56 (fun j hj h => by omega), _, HD5.out.kept hk56 (fun j h e => by omega), fun j h => ⟨h.1.1.elim (fun h => (HP.out j h).1) (fun h => by omega), by omega⟩⟩
        · obtain rfl : k = L.texts.length := by omega
          have HE := Lib.hid (show openS s q = (0, some ⟨L, q, st.1.1, st.1.2, st.2⟩, s') by
            rw [HE1.out, HF.out, List.drop_length]
            simp [Sto.loadP])
          go_wp2
          go_ret2
          rw [HE.out]
          have hW' := HW5.out.trans HKr.out (fun j hj h => by omega)
          refine ⟨bm + 1, rfl, hW', y, bm, _, Q2, _, HD5.out.kept HKr.out (fun j h e => by omega), HM5.out.kept HKr.out (fun j h e => by have := HQ2.out j h; omega), HSr.out, ?_, ?_, fun j h => ⟨by omega, h.2⟩, by omega, by omega⟩
          · intro j h
            exact ⟨h.1.1.elim (fun h => (HP.out j h).1) (fun h => by omega), by omega, h.1.2, fun e => by omega, by omega, by omega⟩
          · intro j h
            have := HQ2.out j h
            exact ⟨by omega, by omega, fun e => by omega, by omega, by omega⟩
end Go.Proofs.Ytbiohidelhfaiaa
end

section
namespace Go.Proofs.Ytbiohidelhfaiaa
open Go.RowKit Go.Canon Go.Mem Go.Args
open Go.Disk (St)
set_option linter.unusedVariables false
set_option linter.unusedSimpArgs false
theorem write_quiet {s : St} (ho : s.off = false) (ha : s.armed = false) (i : Int) (b : List Int) (h1 : 0 ≤ i) (h2 : i < s.now.length) (hb : b.length ≤ 64) : s.write i b = (0, { s with now := s.now.set i.toNat (Disk.pad b), opn := s.opn ++ [(i, Disk.pad b)] }) := by
  unfold St.write St.step
  simp [ho, ha]
  omega
theorem sync_quiet {s : St} (ho : s.off = false) (ha : s.armed = false) : s.sync.1 = 0 := by
  unfold St.sync St.step
  simp [ho, ha]
theorem sec_mem {l : List Int} {j : Nat} {x : Int} (h : x ∈ secF l j) : x ∈ l := List.mem_of_mem_drop (List.mem_of_mem_take h)
theorem blank_zero {l : List Int} (h : ∀ x ∈ l, x = 0) : blankF l = true := by
  unfold blankF
  rw [List.all_eq_true]
  intro x hx
  simpa using h x hx
theorem wipe_zero {all : List Int} (h : ∀ x ∈ all, x = 0) (frm : Nat) : ∀ (m : Nat) (s : St), wipeGo all frm m false s = (0, false, s) := by
  intro m
  induction m with
  | zero => intro s; rfl
  | succ m ih => intro s; rw [wipeGo, if_pos (blank_zero (fun x hx => h x (sec_mem hx))), ih]
theorem zero_flat (n : Nat) : ∀ x ∈ flatS (fresh n).now, x = 0 := by
  intro x hx
  unfold flatS fresh at hx
  obtain ⟨z, hz, hx⟩ := List.mem_flatten.1 hx
  have h1 := List.eq_of_mem_replicate hz
  subst h1
  unfold Disk.zsec at hx
  exact List.eq_of_mem_replicate hx
theorem openP_fresh (n : Nat) : openP (fresh n) = (0, some ⟨[], 0, false⟩, fresh n) := by
  have hz := zero_flat n
  have hs : scan (flatS (fresh n).now) (fresh n).now.length ((fresh n).now.length + 1) [] 0 = some ([], 0) := by
    rw [scan, if_neg (fun h => by rw [blank_zero (fun x hx => hz x (sec_mem hx))] at h; cases h.2)]
  have hw : wipeP (fresh n) (flatS (fresh n).now) 0 = (0, fresh n) := by
    unfold wipeP
    rw [wipe_zero hz]
    rfl
  unfold openP
  rw [if_neg (by simp [fresh]), hs]
  simp only [hw]
  rfl
theorem openP_two : openP (fresh 2) = (0, some ⟨[], 0, false⟩, fresh 2) := openP_fresh 2
theorem lay_two (f : List Int) (h1 : 1 ≤ f.length) (h2 : f.length ≤ 64) : (layP (fresh 2) 0 f).1 = 0 := by
  have e : spanF f.length - 1 = 0 := by unfold spanF; omega
  unfold layP
  rw [e]
  have e2 : layGo f 0 0 1 (fresh 2) = (0, fresh 2) := rfl
  rw [e2, if_pos rfl]
  unfold layMid
  rw [if_neg (by omega)]
  unfold layEnd
  have hw := write_quiet (s := fresh 2) rfl rfl ((0 : Nat) : Int) (f.take 64) (by decide) (by simp [fresh]) (by rw [List.length_take]; omega)
  rw [hw, if_pos rfl]
  exact sync_quiet rfl rfl
theorem append_two : (appendP (fresh 2) ⟨[], 0, false⟩ [97]).1 = 0 ∧ (appendP (fresh 2) ⟨[], 0, false⟩ [97]).2.2 = ⟨[[97]], 1, false⟩ := by
  have hl := lay_two (putF ((([] : List (List Int)).length : Int) + 1) [97]) (by rw [putF_len]; decide) (by rw [putF_len]; decide)
  unfold appendP
  rw [if_neg (by simp), if_neg (by simp), if_neg (by simp [fresh, spanF]), if_pos hl]
  exact ⟨rfl, rfl⟩
theorem flat_fresh (n : Nat) : IsB (flatS (fresh n).now) := fun x hx => by rw [zero_flat n x hx]; decide
end Go.Proofs.Ytbiohidelhfaiaa
end

section
namespace Go.Proofs.Ytbiohidelhfaiaa
open Go.RowKit Go.Canon Go.Mem Go.Args
open Go.Disk (St)
open Go.Proofs.Ytbiohidelhfaiaa.Sto (Chg)
set_option linter.unusedVariables false
set_option linter.unusedSimpArgs false
def s0 : StoS := ⟨⟨[], 0, false⟩, 9, [], 0, 0⟩
theorem openS_two : openS (fresh 2) 9 = (0, some s0, fresh 2) := by
  unfold openS
  rw [if_neg (by decide), openP_two]
  rfl
def c0 : Chg := ⟨[97], false, [49]⟩
theorem chk_c0 : Sto.chk [c0] = 0 := by decide
theorem enc_c0 : Sto.encL [c0] = [1, 0, 1, 97, 1, 49] := by decide
theorem commit_two : (commitP (fresh 2) s0 [c0]).1 = 0 ∧ (commitP (fresh 2) s0 [c0]).2.2.u = 2 := by
  have h1 : ¬ (s0.q < Sto.thenGo s0.M s0.u [c0] ∧ s0.u < Sto.thenGo s0.M s0.u [c0]) := by decide
  have h2 : (appendP (fresh 2) s0.L (Sto.encL [c0])).1 = 0 := by
    rw [enc_c0]
    have hl := lay_two (putF ((([] : List (List Int)).length : Int) + 1) [1, 0, 1, 97, 1, 49]) (by rw [putF_len]; decide) (by rw [putF_len]; decide)
    unfold appendP
    rw [if_neg (by simp [s0]), if_neg (by simp), if_neg (by simp [fresh, spanF, s0])]
    rw [show s0.L.texts.length = ([] : List (List Int)).length from rfl, show s0.L.next = 0 from rfl, if_pos hl]
  unfold commitP
  rw [if_neg (fun h => h chk_c0), if_neg h1, if_neg (fun h => h h2)]
  exact ⟨rfl, by decide⟩
section
variable {w : World} {x bm n : Nat} {R : Nat → Prop} {lv : Value} {q : Int} {s : Sto.Mp × Int}
theorem used_c (h : SIs w x bm R lv q n s) : Calls Try.prog 35 #[.pointer (some ⟨x, 0, none⟩)] w (Rets (Only (.int .i64 s.2) w)) := by
  have c2 := h.c2
  clear h
  go_enter Try.func35, Try.ntmps35
  go_wp2
  go_ret
  exact ⟨rfl, rfl⟩
theorem used_nil (w : World) : Calls Try.prog 35 #[.pointer none] w (Rets (Only (.int .i64 0) w)) := by
  go_enter Try.func35, Try.ntmps35
  go_wp2
  go_ret
  exact ⟨rfl, rfl⟩
end
theorem c0B : ChgB [c0] := fun c hc => by
  rw [List.mem_singleton] at hc
  subst hc
  exact ⟨fun x hx => by rw [show c0.key = [97] from rfl, List.mem_singleton] at hx; subst hx; decide, fun x hx => by rw [show c0.val = [49] from rfl, List.mem_singleton] at hx; subst hx; decide, by decide, by decide⟩
theorem one_chg {w2 w3 : World} {b : Nat} {fr : Nat × Nat} (hb : w3.heap[b]? = some (.cells (chgC c0 (.slice (some ⟨w2.heap.size, 0, none⟩) 1 1)).toArray 41 (0, 0))) (hbb : b = w2.heap.size + 1) (h : w3.heap[w2.heap.size]? = some (.cells #[.int .u8 49] 5 fr)) : Chgs w3 (fun j => w2.heap.size ≤ j ∧ j < w3.heap.size) (.slice (some ⟨b, 0, none⟩) 1 1) [c0] := by
  have h1 := lt_of hb
  have h2 := lt_of h
  refine ⟨some ⟨b, 0, none⟩, 1, rfl, Nat.le_refl _, fun h => (by cases h), fun i d hi => ?_⟩
  obtain rfl : i = 0 := by have := (List.getElem?_eq_some_iff.1 hi).1; simp at this; omega
  simp only [List.getElem?_cons_zero, Option.some.injEq] at hi
  subst hi
  refine ⟨b, 0, rfl, ⟨by omega, h1⟩, .slice (some ⟨w2.heap.size, 0, none⟩) 1 1, (cell_of_row w3 b 0 _ _ _ hb).trans rfl, (cell_of_row w3 b 1 _ _ _ hb).trans rfl, (cell_of_row w3 b 2 _ _ _ hb).trans rfl, ?_⟩
  exact ⟨_, _, rfl, Nat.le_refl _, fun h => (by cases h), .inr ⟨_, _, rfl, ⟨Nat.le_refl _, h2⟩, fun j u hu => by rw [cell_of_row _ _ _ _ _ _ h, Nat.zero_add]; simpa [Disk.bytes8, c0] using hu⟩⟩
set_option maxHeartbeats 3200000 in
set_option maxRecDepth 100000 in
theorem lives11_c (w : World) : Calls Try.prog 20 #[] w (Rets (Yes w)) := by
  have HO := Lib.hid openS_two
  have HC := Lib.hid commit_two
  have HB := Lib.hid (flat_fresh 2)
  obtain ⟨r, hr⟩ : ∃ r, r = commitP (fresh 2) s0 [c0] := ⟨_, rfl⟩
  have HR := Lib.hid hr
  rw [← hr] at HC
  clear hr
  have HP2 := Lib.hid (show ∀ L, (openP (fresh 2)).2.1 = some L → L.texts.length ≤ 4096 ∧ ∀ t ∈ L.texts, IsB t ∧ t.length ≤ 1000000 from fun L h => by
    rw [openP_two] at h
    cases h
    exact ⟨by decide, fun t ht => by cases ht⟩)
  have kc := fun (w : World) (C : Array Value) (n c : Nat) => Lib.run_convert_bytes_const (P := Try.prog) w 23 5 C n c Try.underlying23 Try.underlying5
  go_enter Try.func20, Try.ntmps20
  go_wp2_with (first
    | (go_at_call 23; go_loud (refine Rets.use (dNew_c 2 (by decide) (by decide) _) ?_); rintro v1 w1 ⟨hk1, g, rfl, hd1⟩)
    | (go_at_call 24; go_loud (refine Rets.use (open_c (W := w) (w := w1) (g := g) (s := fresh 2) ⟨hk1, _, hd1, fun k h => h⟩ 9 (by decide) HB.out HP2.out) ?_); intro v2 w2 hp2; rw [HO.out] at hp2; obtain ⟨x, rfl, hS2⟩ := hp2)
    | ((with_reducible refine at_ 21 rfl ?_); go_must (refine step_lit rfl 22 _ 1 rfl [.agg (chgC c0 (.slice (some ⟨w2.heap.size, 0, none⟩) 1 1)).toArray] rfl rfl (by decide) 41 _ 3 Try.underlying22 row2_chg (by decide) (by decide) (by intro v hv; rw [List.mem_singleton] at hv; subst hv; exact chgC_cells _ _ rfl) ?_); intro w3 hb3 hk3 hs3; go_loud (rw [chgC_flat _ _ rfl, show (w2.alloc (.cells #[.int .u8 49] 5 (1, 2))).heap.size = w2.heap.size + 1 by simp] at hb3); have hk23 : Keeps (fun _ => False) w2 w3 := ((Keeps.refl _ w2).alloc _).trans hk3 (fun _ _ h => h); go_loud (have hc3 := (one_chg hb3 rfl (hk3.heap (heap_alloc_new w2 _) (fun h => h)) : Chgs w3 (fun j => w2.heap.size ≤ j ∧ j < w3.heap.size) _ [c0])))
    | (go_at_call 26; go_loud (refine Rets.use (commit_c hS2 hk23 (by decide) (by decide) (by decide) (by decide) ⟨by decide, by decide⟩ [c0] c0B (by decide) _ hc3 (fun k h => ⟨.inr h.1, h.2⟩)) ?_); rintro v4 w4 hp4; rw [← HR.out] at hp4; obtain ⟨rfl, hS4, hk4⟩ := hp4; rw [HC.out.1])
    | (go_at_call 35; go_loud (refine Rets.use (used_c hS4.2.choose_spec.choose_spec.choose_spec.choose_spec.choose_spec.s) ?_); rintro _ _ ⟨rfl, rfl⟩; simp only [HC.out.2]))
  go_ret
  exact ⟨rfl, hS4.1⟩
end Go.Proofs.Ytbiohidelhfaiaa
end

section
namespace Go.Proofs.Ytbiohidelhfaiaa
open Go.RowKit Go.Canon Go.Mem Go.Lib
set_option linter.unusedVariables false
set_option linter.unusedSimpArgs false
/-- The block holds the bytes at its front. -/
def MRow (w : World) (b : Nat) (l : List Int) : Prop := ∃ C : Array Value, w.heap[b]? = some (.cells C 5 (C.size, C.size + 1)) ∧ l.length ≤ C.size ∧ C.toList.take l.length = Disk.bytes8 l
theorem MRow.kept {w w' : World} {S : Nat → Prop} {b : Nat} {l : List Int} (h : MRow w b l) (hk : Keeps S w w') (hn : ¬ S b) : MRow w' b l := by
  obtain ⟨C, h1, h2, h3⟩ := h
  exact ⟨C, hk.heap h1 hn, h2, h3⟩
theorem MRow.cell {w : World} {b : Nat} {l : List Int} (h : MRow w b l) {k : Nat} (hk : k < l.length) : w.cell? ⟨b, k, none⟩ = some (.int .u8 l[k]) := by
  obtain ⟨C, h1, h2, h3⟩ := h
  have h4 : C[k]? = some (.int .u8 l[k]) := by
    have : (C.toList.take l.length)[k]? = some (.int .u8 l[k]) := by rw [h3]; simp [Disk.bytes8, hk]
    rw [List.getElem?_take, if_pos hk] at this
    simpa using this
  unfold World.cell?
  rw [h1]
  exact h4
theorem MRow.rd {w : World} {b c : Nat} {l : List Int} (h : MRow w b l) (hc : l.length ≤ c) {ok : Nat → Prop} (hok : ok b) : Rd w ok (.slice (some ⟨b, 0, none⟩) l.length c) l.length (Disk.bytes8 l) :=
  ⟨_, _, rfl, hc, fun h => (by cases h), .inr ⟨b, 0, rfl, hok, fun j u hu => by
    have hj : j < l.length := by have := (List.getElem?_eq_some_iff.1 hu).1; rwa [Disk.bytes8_len] at this
    rw [Nat.zero_add, h.cell hj, ← hu]
    simp [Disk.bytes8, hj]⟩⟩
section
variable {P : Program} {ops : Array Oper} {op : Oper} {rest : List Oper} {a : Act} {w : World} {Q : Exit → Act → World → Prop}
/-- []byte(s): a new block. -/
theorem step_str_mrow (hgd : Region.wanted op (yielded ops a.tmps) = true) (src dst : TypeId) (x : Operand) (ho : op.op = .convert src dst x) (hs : P.underlying src = some .string) (hd : P.underlying dst = some (.slice 5)) (he : P.underlying 5 = some (.int .u8)) (l : List Int) (hB : IsB l) (hx : a.eval x = .string (str l))
    (h : ∀ c w', l.length ≤ c → MRow w' w.heap.size l → Keeps (fun _ => False) w w' → wpList P ops Q rest (a.put op.dst (.slice (some ⟨w.heap.size, 0, none⟩) l.length c)) w') : wpList P ops Q (op :: rest) a w := by
  refine plain_ hgd fun K hK => ?_
  unfold Oper.wp execOp
  simp only [ho, hx, Sem.run_bind, run_bytes_of_string w src dst 5 (str l) hs hd he, Result.andThen_ok, Sem.run_pure]
  have hz := str_size l
  have hg := grownCap_ge w (str l).size 0 5
  generalize hc : grownCap w (str l).size 0 5 = c at *
  rw [hz] at hg ⊢
  refine hK _ _ (h _ _ (by omega) ⟨bytesRow (str l) c, ?_, ?_, ?_⟩ (((Keeps.refl _ w).drew).alloc _))
  · show (w.drew.heap.push _)[w.heap.size]? = _
    exact Array.getElem?_push_size
  · unfold bytesRow
    simp only [Array.size_append, Array.size_map, Array.size_replicate]
    have : (str l).data.size = l.length := hz
    omega
  · apply List.ext_getElem?
    intro j
    rw [List.getElem?_take]
    split
    · rename_i hj
      have hj2 : j < (str l).data.size := by have : (str l).data.size = l.length := hz; omega
      rw [Array.getElem?_toList, bytesRow_at _ _ _ hj2]
      rw [show Disk.bytes8 l = Go.Lib.strCells (str l) from (strCells_str hB).symm]
      simp only [Go.Lib.strCells, List.getElem?_map, Array.getElem?_toList]
      rw [Array.getElem?_eq_getElem hj2]
      rfl
    · rename_i hj
      rw [List.getElem?_eq_none (by rw [Disk.bytes8_len]; omega)]
/-- One byte of it is set. -/
theorem step_mset (hgd : Region.wanted op (yielded ops a.tmps) = true) (ty : TypeId) (x y : Operand) (ho : op.op = .store ty x y) (b k : Nat) (l : List Int) (v : Int)
    (hx : a.eval x = .pointer (some ⟨b, k, none⟩)) (hy : a.eval y = .int .u8 v) (hb : MRow w b l) (hl : k < l.length) (hi : (P.info? ty).map (·.size) = some 1)
    (h : ∀ w', MRow w' b (l.set k v) → Keeps (· = b) w w' → wpList P ops Q rest (a.put op.dst undef) w') : wpList P ops Q (op :: rest) a w := by
  refine plain_ hgd fun K hK => ?_
  have hcell := hb.cell hl
  obtain ⟨C, h1, h2, h3⟩ := hb
  have hfro : w.frozen? ⟨b, k, none⟩ = false := by
    unfold World.frozen?
    rw [h1]
    simp; omega
  unfold Oper.wp execOp
  have hr : (Instr.storeAt ty (.pointer (some ⟨b, k, none⟩)) (.int .u8 v)).run P w = .ok () (w.setCell ⟨b, k, none⟩ (.int .u8 v)) := by
    cases hq : P.info? ty with
    | none => simp [hq] at hi
    | some i =>
      have hs : i.size = 1 := by simpa [hq] using hi
      simp only [Instr.storeAt, Instr.sureAddr, Sem.run_bind, Sem.run_pure, Result.andThen_ok, Go.storeVar, Value.cells, Go.sizeOf, Go.typeInfo]
      simp only [Go.program, Sem.run, Result.andThen, hq]
      have hst : (Go.store ((⟨b, k, none⟩ : Addr).add 0) (.int .u8 v)).run P w = .ok () (w.setCell ⟨b, k, none⟩ (.int .u8 v)) := by
        rw [show (⟨b, k, none⟩ : Addr).add 0 = ⟨b, k, none⟩ from rfl, run_store P w _ _ _ rfl, hcell]
        simp [hfro]
      simp [hs, Go.storeCells, hst]
  simp only [ho, hx, hy, Sem.run_bind, hr, Result.andThen_ok, Sem.run_pure]
  refine hK _ _ (h _ ⟨C.setIfInBounds k (.int .u8 v), ?_, ?_, ?_⟩ ?_)
  · simp [World.setCell, Array.getElem?_modify, h1]
  · simpa using h2
  · rw [Array.toList_setIfInBounds, List.length_set, List.take_set, h3]
    unfold Disk.bytes8
    rw [List.map_set]
  · exact (Keeps.refl (fun x => x = b) w).setCell (p := ⟨b, k, none⟩) (fun _ => rfl) _
end
end Go.Proofs.Ytbiohidelhfaiaa
end

section
namespace Go.Proofs.Ytbiohidelhfaiaa
open Go.RowKit Go.Canon Go.Mem
open Go.Proofs.Ytbiohidelhfaiaa.Sto (Chg)
set_option linter.unusedVariables false
set_option linter.unusedSimpArgs false
set_option maxHeartbeats 6400000 in
set_option maxRecDepth 100000 in
theorem rcheck_c {w : World} {ok : Nat → Prop} (l : List Chg) (hB : ChgB l) (hl : l.length ≤ 1000000) (v : Value) (h : Chgs w ok v l) : Calls Try.prog 19 #[v] w (Rets (Still (.int .i64 (Sto.chk l)) w)) := by
  obtain ⟨A, c, rfl, hlc, _, _⟩ := id h
  have H := Lib.hid h
  have HB := Lib.hid hB
  clear h hB
  by_cases hbad : l.length = 0 ∨ 16 < l.length
  · have HZ := Lib.hid (show Sto.chk l = 2 by unfold Sto.chk; rw [if_pos hbad])
    rcases hbad with h0 | h0
    · have hq : l.length < 1 := by omega
      clear h0
      go_enter Try.func19, Try.ntmps19
      go_wp2
      go_ret
      exact ⟨by rw [HZ.out] <;> rfl, Keeps.refl _ _⟩
    · go_enter Try.func19, Try.ntmps19
      go_wp2
      go_ret
      exact ⟨by rw [HZ.out] <;> rfl, Keeps.refl _ _⟩
  · have HZ := Lib.hid (show Sto.chk l = Sto.chkGo [] l by unfold Sto.chk; rw [if_neg hbad])
    have hl1 : 1 ≤ l.length := by omega
    have hl2 : l.length ≤ 16 := by omega
    clear hbad
    go_enter Try.func19, Try.ntmps19
    go_wp2
    go_loopw [3] (fun i wr => ∃ k : Nat, k ≤ l.length ∧ i = .int .i64 k ∧ Keeps (fun _ => False) w wr ∧ Hid (Sto.chk l = Sto.chkGo (l.take k) (l.drop k))) (fun i _ => l.length - (intOf i).toNat)
    case atStart => exact ⟨0, Nat.zero_le _, rfl, Keeps.refl _ _, Lib.hid HZ.out⟩
    case round =>
      obtain ⟨k, hk, rfl, hkr, HF⟩ := hrel
      have HKr := Lib.hid hkr
      by_cases hlt : k < l.length
      · obtain ⟨A', c', e, _, _, hin⟩ := H.out
        cases e
        obtain ⟨b, o, e, hb, vV, c0, c1, c2, hrV⟩ := hin k _ (List.getElem?_eq_getElem hlt)
        cases e
        obtain ⟨Av, cv, rfl, _⟩ := hrV.slice
        obtain ⟨hb1, hb2, hb3, hb4⟩ := HB.out _ (List.getElem_mem hlt)
        have HF2 := Lib.hid (HF.out.trans (chkGo_next hlt))
        have HIn := Lib.hid (fun (ws : World) (K : Keeps (fun _ => False) w ws) (j : Nat) (hj : j < l.length) => (by
          obtain ⟨A2, c2, e, _, _, h4⟩ := H.out.kept K (fun _ _ h => h)
          cases e
          exact h4 j _ (List.getElem?_eq_getElem hj) : ∃ b' o', some (⟨b, o, none⟩ : Addr) = some ⟨b', o', none⟩ ∧ ok b' ∧ ChgCells ws ok b' (o' + j * 3) l[j]))
        generalize hd : l[k] = d at *
        have HDk := Lib.hid hd
        obtain ⟨key, del, val⟩ := d
        simp only at c0 c1 c2 hb1 hb2 hb3 hb4
        have HC0 := Lib.hid (fun (ws : World) (K : Keeps (fun _ => False) w ws) => K.cell c0 (fun h => h))
        have c0 := hkr.cell c0 (fun h => h)
        have c1 := hkr.cell c1 (fun h => h)
        have c2 := hkr.cell c2 (fun h => h)
        have HNm := Lib.hid (fun w => rkey_c key hb1 hb3 w)
        have HKy := Lib.hid hb1
        obtain ⟨sk, hsk⟩ : ∃ s, s = str key := ⟨_, rfl⟩
        have HSk := Lib.hid hsk
        rw [← hsk] at c0 HC0 HNm
        clear hin hrV HF hsk hb1 hb2 hd hkr
        by_cases hkf : Sto.keyF key = true
        · rw [hkf] at HNm
          by_cases hvb : 4096 < val.length
          · have HG := Lib.hid (show Sto.chk l = 5 by
              have h1 : Sto.chk1 (l.take k) ⟨key, del, val⟩ = 5 := by unfold Sto.chk1; rw [if_neg (by rw [hkf]; simp), if_pos hvb]
              rw [HF2.out, h1]; rfl)
            go_wp2_with (go_at_call 49; refine Rets.use (HNm.out _) ?_; rintro _ _ ⟨rfl, rfl⟩)
            go_ret
            exact ⟨by rw [HG.out] <;> rfl, HKr.out⟩
          · cases del with
            | true =>
              by_cases hv0 : 0 < val.length
              · have HG := Lib.hid (show Sto.chk l = 2 by
                  have h1 : Sto.chk1 (l.take k) ⟨key, true, val⟩ = 2 := by unfold Sto.chk1; rw [if_neg (by rw [hkf]; simp), if_neg hvb, if_pos ⟨rfl, hv0⟩]
                  rw [HF2.out, h1]; rfl)
                go_wp2_with (go_at_call 49; refine Rets.use (HNm.out _) ?_; rintro _ _ ⟨rfl, rfl⟩)
                go_ret
                exact ⟨by rw [HG.out] <;> rfl, HKr.out⟩
              · have HF3 := Lib.hid (show Sto.chk l = if ((l.take k).any fun a => decide (a.key = key)) = true then 10 else Sto.chkGo (l.take (k + 1)) (l.drop (k + 1)) by
                  have h1 : Sto.chk1 (l.take k) ⟨key, true, val⟩ = if ((l.take k).any fun a => decide (a.key = key)) = true then 10 else 0 := by unfold Sto.chk1; rw [if_neg (by rw [hkf]; simp), if_neg hvb, if_neg (fun h => hv0 h.2)]
                  rw [HF2.out, h1]
                  split <;> simp_all)
                go_wp2_with (go_at_call 49; refine Rets.use (HNm.out _) ?_; rintro _ _ ⟨rfl, rfl⟩)
                go_loopw [4] (fun i ws => ∃ j : Nat, j ≤ k ∧ i = .int .i64 j ∧ Keeps (fun _ => False) w ws ∧ Hid (((l.take j).any fun a => decide (a.key = key)) = false)) (fun i _ => k - (intOf i).toNat)
                case atStart => exact ⟨0, Nat.zero_le _, rfl, HKr.out, Lib.hid rfl⟩
                case round =>
                  clear c0 c1 c2
                  obtain ⟨j, hj, rfl, hkj, HM⟩ := hrel
                  have HKj := Lib.hid hkj
                  have c0 := HC0.out _ hkj
                  by_cases hjk : j < k
                  · have hjl : j < l.length := by omega
                    obtain ⟨b2, o2, e, _, vV2, e0, e1, e2, hr2⟩ := HIn.out _ hkj j hjl
                    cases e
                    have hB2 := (HB.out _ (List.getElem_mem hjl)).1
                    have HMn := Lib.hid (take_any (f := fun a => decide (a.key = key)) hjl)
                    have HMk := Lib.hid (fun h : l[j].key = key => (List.any_eq_true.2 ⟨l[j], by rw [List.mem_iff_getElem]; exact ⟨j, by rw [List.length_take]; omega, by rw [List.getElem_take]⟩, decide_eq_true h⟩ : ((l.take k).any fun a => decide (a.key = key)) = true))
                    have he := str_eq hB2 HKy.out
                    rw [← HSk.out] at he
                    generalize l[j] = g at *
                    obtain ⟨key2, del2, val2⟩ := g
                    simp only at e0 e1 e2 he HMn HMk
                    generalize str key2 = sk2 at *
                    clear hr2 hB2 hkj
                    by_cases hkk : key2 = key
                    · have HG := Lib.hid (show Sto.chk l = 10 by rw [HF3.out, if_pos (HMk.out hkk)])
                      rw [decide_eq_true hkk] at he
                      clear hkk
                      go_wp2
                      refine Canon.row [0, 1, 2, 3, 5, 6, 7, 8, 4, 9, 10] (by kernel_rfl) (by kernel_rfl) (by repeat (first | (with_reducible exact Safe.body) | (with_reducible apply Safe.then) | (with_reducible apply Safe.inBlock) | (dsimp +zetaDelta only))) ?_
                      have HKd := Lib.hid (HKj.out.drew)
                      simp only [Canon.pick, Canon.wpPlan, List.getElem?_toArray, List.getElem?_cons_zero, List.getElem?_cons_succ]
                      go_wp2
                      refine ⟨by rfl, trivial, ?_⟩
                      go_wp2
                      go_ret
                      exact ⟨by rw [HG.out] <;> rfl, HKd.out⟩
                    · have HM2 := Lib.hid (show ((l.take (j + 1)).any fun a => decide (a.key = key)) = false by rw [HMn.out, HM.out, decide_eq_false hkk]; rfl)
                      rw [decide_eq_false hkk] at he
                      clear hkk
                      go_wp2
                      refine Canon.row [0, 1, 2, 3, 5, 6, 7, 8, 4, 9, 10] (by kernel_rfl) (by kernel_rfl) (by repeat (first | (with_reducible exact Safe.body) | (with_reducible apply Safe.then) | (with_reducible apply Safe.inBlock) | (dsimp +zetaDelta only))) ?_
                      have HKd := Lib.hid (HKj.out.drew)
                      simp only [Canon.pick, Canon.wpPlan, List.getElem?_toArray, List.getElem?_cons_zero, List.getElem?_cons_succ]
                      go_wp2
                      refine ⟨by rfl, trivial, ?_⟩
                      go_wp2
                      go_roundw
                      case rel => exact ⟨j + 1, by omega, by go_num, HKd.out, HM2⟩
                      case measure => simp [intOf]; omega
                  · obtain rfl : j = k := by omega
                    have HF4 := Lib.hid (show Sto.chk l = Sto.chkGo (l.take (j + 1)) (l.drop (j + 1)) by rw [HF3.out, if_neg (by rw [HM.out]; simp)])
                    clear hkj
                    go_wp2
                    go_roundw
                    case rel => exact ⟨j + 1, by omega, by go_num, HKj.out, HF4⟩
                    case measure => simp [intOf]; omega
            | false =>
              have HF3 := Lib.hid (show Sto.chk l = if ((l.take k).any fun a => decide (a.key = key)) = true then 10 else Sto.chkGo (l.take (k + 1)) (l.drop (k + 1)) by
                have h1 : Sto.chk1 (l.take k) ⟨key, false, val⟩ = if ((l.take k).any fun a => decide (a.key = key)) = true then 10 else 0 := by unfold Sto.chk1; rw [if_neg (by rw [hkf]; simp), if_neg hvb, if_neg (fun h => by cases h.1)]
                rw [HF2.out, h1]
                split <;> simp_all)
              go_wp2_with (go_at_call 49; refine Rets.use (HNm.out _) ?_; rintro _ _ ⟨rfl, rfl⟩)
              go_loopw [4] (fun i ws => ∃ j : Nat, j ≤ k ∧ i = .int .i64 j ∧ Keeps (fun _ => False) w ws ∧ Hid (((l.take j).any fun a => decide (a.key = key)) = false)) (fun i _ => k - (intOf i).toNat)
              case atStart => exact ⟨0, Nat.zero_le _, rfl, HKr.out, Lib.hid rfl⟩
              case round =>
                clear c0 c1 c2
                obtain ⟨j, hj, rfl, hkj, HM⟩ := hrel
                have HKj := Lib.hid hkj
                have c0 := HC0.out _ hkj
                by_cases hjk : j < k
                · have hjl : j < l.length := by omega
                  obtain ⟨b2, o2, e, _, vV2, e0, e1, e2, hr2⟩ := HIn.out _ hkj j hjl
                  cases e
                  have hB2 := (HB.out _ (List.getElem_mem hjl)).1
                  have HMn := Lib.hid (take_any (f := fun a => decide (a.key = key)) hjl)
                  have HMk := Lib.hid (fun h : l[j].key = key => (List.any_eq_true.2 ⟨l[j], by rw [List.mem_iff_getElem]; exact ⟨j, by rw [List.length_take]; omega, by rw [List.getElem_take]⟩, decide_eq_true h⟩ : ((l.take k).any fun a => decide (a.key = key)) = true))
                  have he := str_eq hB2 HKy.out
                  rw [← HSk.out] at he
                  generalize l[j] = g at *
                  obtain ⟨key2, del2, val2⟩ := g
                  simp only at e0 e1 e2 he HMn HMk
                  generalize str key2 = sk2 at *
                  clear hr2 hB2 hkj
                  by_cases hkk : key2 = key
                  · have HG := Lib.hid (show Sto.chk l = 10 by rw [HF3.out, if_pos (HMk.out hkk)])
                    rw [decide_eq_true hkk] at he
                    clear hkk
                    go_wp2
                    refine Canon.row [0, 1, 2, 3, 5, 6, 7, 8, 4, 9, 10] (by kernel_rfl) (by kernel_rfl) (by repeat (first | (with_reducible exact Safe.body) | (with_reducible apply Safe.then) | (with_reducible apply Safe.inBlock) | (dsimp +zetaDelta only))) ?_
                    have HKd := Lib.hid (HKj.out.drew)
                    simp only [Canon.pick, Canon.wpPlan, List.getElem?_toArray, List.getElem?_cons_zero, List.getElem?_cons_succ]
                    go_wp2
                    refine ⟨by rfl, trivial, ?_⟩
                    go_wp2
                    go_ret
                    exact ⟨by rw [HG.out] <;> rfl, HKd.out⟩
                  · have HM2 := Lib.hid (show ((l.take (j + 1)).any fun a => decide (a.key = key)) = false by rw [HMn.out, HM.out, decide_eq_false hkk]; rfl)
                    rw [decide_eq_false hkk] at he
                    clear hkk
                    go_wp2
                    refine Canon.row [0, 1, 2, 3, 5, 6, 7, 8, 4, 9, 10] (by kernel_rfl) (by kernel_rfl) (by repeat (first | (with_reducible exact Safe.body) | (with_reducible apply Safe.then) | (with_reducible apply Safe.inBlock) | (dsimp +zetaDelta only))) ?_
                    have HKd := Lib.hid (HKj.out.drew)
                    simp only [Canon.pick, Canon.wpPlan, List.getElem?_toArray, List.getElem?_cons_zero, List.getElem?_cons_succ]
                    go_wp2
                    refine ⟨by rfl, trivial, ?_⟩
                    go_wp2
                    go_roundw
                    case rel => exact ⟨j + 1, by omega, by go_num, HKd.out, HM2⟩
                    case measure => simp [intOf]; omega
                · obtain rfl : j = k := by omega
                  have HF4 := Lib.hid (show Sto.chk l = Sto.chkGo (l.take (j + 1)) (l.drop (j + 1)) by rw [HF3.out, if_neg (by rw [HM.out]; simp)])
                  clear hkj
                  go_wp2
                  go_roundw
                  case rel => exact ⟨j + 1, by omega, by go_num, HKj.out, HF4⟩
                  case measure => simp [intOf]; omega
        · have hkf : Sto.keyF key = false := by simpa using hkf
          rw [hkf] at HNm
          have HG := Lib.hid (show Sto.chk l = 2 by
            have h1 : Sto.chk1 (l.take k) ⟨key, del, val⟩ = 2 := by unfold Sto.chk1; rw [if_pos hkf]
            rw [HF2.out, h1]; rfl)
          go_wp2_with (go_at_call 49; refine Rets.use (HNm.out _) ?_; rintro _ _ ⟨rfl, rfl⟩)
          go_ret
          exact ⟨by rw [HG.out] <;> rfl, HKr.out⟩
      · obtain rfl : k = l.length := by omega
        have HG := Lib.hid (show Sto.chk l = 0 by rw [HF.out, List.drop_length]; rfl)
        clear hkr
        go_wp2
        go_ret
        exact ⟨by rw [HG.out] <;> rfl, HKr.out⟩
set_option maxHeartbeats 1600000 in
theorem rcounted_c {w : World} {ok : Nat → Prop} (v : Value) (b : List Int) (hr : Rd w ok v b.length (Disk.bytes8 b)) (hl : b.length ≤ 1000000) : Calls Try.prog 42 #[v] w (Rets fun v' w' => Out w w' v' (Sto.counted b)) := by
  obtain ⟨A, c, rfl, _⟩ := hr.slice
  have HR := Lib.hid hr
  have HV := Lib.hid (fun w => rvar_c 9 b.length (by omega) (by omega) (by omega) w)
  have hvn := varF_len b.length
  clear hr
  go_enter Try.func42, Try.ntmps42
  go_wp2_with (first
    | (go_at_call 41; refine Rets.use (HV.out _) ?_; rintro v2 w2 hO2)
    | ((with_reducible refine at_ 8 rfl ?_); go_must (refine out_rd (W := w) rfl _ _ rfl v2 (Sto.varF b.length) rfl hO2 (.slice A b.length c) _ b rfl (HR.out.kept hO2.2 (fun _ _ h => h)) rfl (by omega) ?_); intro v3 w3 hO3 hk3))
  go_ret
  exact hO3
set_option maxHeartbeats 6400000 in
set_option maxRecDepth 100000 in
theorem alike_c {w : World} {ok ok2 : Nat → Prop} (a b : List Chg) (hA : ChgB a) (hB : ChgB b) (ha1 : a.length ≤ 1000000) (hb1 : b.length ≤ 1000000) (va vb : Value) (ha : Chgs w ok va a) (hb : Chgs w ok2 vb b) : Calls Try.prog 17 #[va, vb] w (Rets (Still (.bool (decide (a = b))) w)) := by
  obtain ⟨A, c, rfl, hlc, _, _⟩ := id ha
  obtain ⟨A2, c2, rfl, hlc2, _, _⟩ := id hb
  have H := Lib.hid ha
  have H2 := Lib.hid hb
  have HA := Lib.hid hA
  have HB := Lib.hid hB
  clear ha hb hA hB
  by_cases hn : a.length = b.length
  · have hq : ((a.length : Int) != b.length) = false := by rw [hn]; simp
    have HN := Lib.hid hn
    have hle : a.length ≤ b.length := by omega
    clear hn
    go_enter Try.func17, Try.ntmps17
    go_wp2
    go_loopw [5] (fun i wr => ∃ k : Nat, k ≤ a.length ∧ i = .int .i64 k ∧ Keeps (fun _ => False) w wr ∧ Hid (a.take k = b.take k)) (fun i _ => a.length - (intOf i).toNat)
    case atStart => exact ⟨0, Nat.zero_le _, rfl, Keeps.refl _ _, Lib.hid rfl⟩
    case round =>
      obtain ⟨k, hk, rfl, hkr, HF⟩ := hrel
      have HKr := Lib.hid hkr
      by_cases hlt : k < a.length
      · have hlt2 : k < b.length := by omega
        have H' := Lib.hid (H.out.kept hkr (fun _ _ h => h))
        have H2' := Lib.hid (H2.out.kept hkr (fun _ _ h => h))
        obtain ⟨A', c', e, _, _, hin⟩ := H'.out
        cases e
        obtain ⟨g, o, e, _, vV, c0, c1, c2, hrV⟩ := hin k _ (List.getElem?_eq_getElem hlt)
        cases e
        obtain ⟨A2', c2', e, _, _, hin2⟩ := H2'.out
        cases e
        obtain ⟨g2, o2, e, _, vV2, d0, d1, d2, hrV2⟩ := hin2 k _ (List.getElem?_eq_getElem hlt2)
        cases e
        obtain ⟨Av, cv, rfl, _⟩ := hrV.slice
        obtain ⟨Av2, cv2, rfl, _⟩ := hrV2.slice
        obtain ⟨x1, x2, x3, x4⟩ := HA.out _ (List.getElem_mem hlt)
        obtain ⟨y1, y2, y3, y4⟩ := HB.out _ (List.getElem_mem hlt2)
        have HNx := Lib.hid (show (a.take (k + 1) = a.take k ++ [a[k]]) ∧ (b.take (k + 1) = b.take k ++ [b[k]]) from ⟨by rw [List.take_add_one, List.getElem?_eq_getElem hlt]; rfl, by rw [List.take_add_one, List.getElem?_eq_getElem hlt2]; rfl⟩)
        have HNe := Lib.hid (show a[k] ≠ b[k] → decide (a = b) = false from fun h => decide_eq_false (fun e => h (by subst e; rfl)))
        have hse := str_eq x1 y1
        have HRV := Lib.hid hrV
        have HRV2 := Lib.hid hrV2
        clear hin hin2 hrV hrV2 hkr
        generalize a[k] = d at *
        generalize b[k] = f at *
        obtain ⟨key, del, val⟩ := d
        obtain ⟨key2, del2, val2⟩ := f
        simp only at c0 c1 c2 d0 d1 d2 x1 x2 x3 x4 y1 y2 y3 y4 HRV HRV2 hse
        have hsn : ((str key).toList != (str key2).toList) = !decide (key = key2) := by rw [bne, hse]
        generalize str key = sk at *
        generalize str key2 = sk2 at *
        clear x1 y1
        by_cases hkk : key = key2
        · by_cases hdd : del = del2
          · by_cases hvv : val = val2
            · have HF2 := Lib.hid (show a.take (k + 1) = b.take (k + 1) by rw [HNx.out.1, HNx.out.2, HF.out, hkk, hdd, hvv])
              have HSm := Lib.hid (fun (w' : World) (K : Keeps (fun _ => False) wr w') => same_c _ _ val val2 (HRV.out.kept K (fun _ _ h => h)) (HRV2.out.kept K (fun _ _ h => h)) (by omega))
              rw [decide_eq_true hvv] at HSm
              rw [decide_eq_true hkk] at hse hsn
              subst hdd
              clear hkk hvv
              go_wp2
              refine Canon.row [0, 1, 2, 3, 5, 6, 7, 8, 4, 9, 10, 11, 12, 13, 14, 15, 17, 18, 19, 20, 16, 21, 22, 23, 24, 25, 26, 27, 28, 30, 31, 32, 33, 29, 34, 35, 36, 37] (by kernel_rfl) (by kernel_rfl) (by repeat (first | (with_reducible exact Safe.body) | (with_reducible apply Safe.then) | (with_reducible apply Safe.inBlock) | (dsimp +zetaDelta only))) ?_
              simp only [Canon.pick, Canon.wpPlan, List.getElem?_toArray, List.getElem?_cons_zero, List.getElem?_cons_succ]
              have KD : Keeps (fun _ => False) wr wr.drew := (Keeps.refl _ wr).drew
              go_wp2_with (go_at_call 16; refine Rets.use (HSm.out _ KD) ?_; rintro _ w9 ⟨rfl, hk9⟩)
              have HK9 := Lib.hid ((HKr.out.trans KD (fun _ _ h => h)).trans hk9 (fun _ _ h => h))
              refine ⟨by rfl, trivial, ?_⟩
              go_wp2
              go_roundw
              case rel => exact ⟨k + 1, by omega, by go_num, HK9.out, HF2⟩
              case measure => simp [intOf]; omega
            · have HG := Lib.hid (HNe.out (fun e => hvv (by simp only [Chg.mk.injEq] at e; exact e.2.2)))
              have HSm := Lib.hid (fun (w' : World) (K : Keeps (fun _ => False) wr w') => same_c _ _ val val2 (HRV.out.kept K (fun _ _ h => h)) (HRV2.out.kept K (fun _ _ h => h)) (by omega))
              rw [decide_eq_false hvv] at HSm
              rw [decide_eq_true hkk] at hse hsn
              subst hdd
              clear hkk hvv
              go_wp2
              refine Canon.row [0, 1, 2, 3, 5, 6, 7, 8, 4, 9, 10, 11, 12, 13, 14, 15, 17, 18, 19, 20, 16, 21, 22, 23, 24, 25, 26, 27, 28, 30, 31, 32, 33, 29, 34, 35, 36, 37] (by kernel_rfl) (by kernel_rfl) (by repeat (first | (with_reducible exact Safe.body) | (with_reducible apply Safe.then) | (with_reducible apply Safe.inBlock) | (dsimp +zetaDelta only))) ?_
              simp only [Canon.pick, Canon.wpPlan, List.getElem?_toArray, List.getElem?_cons_zero, List.getElem?_cons_succ]
              have KD : Keeps (fun _ => False) wr wr.drew := (Keeps.refl _ wr).drew
              go_wp2_with (go_at_call 16; refine Rets.use (HSm.out _ KD) ?_; rintro _ w9 ⟨rfl, hk9⟩)
              have HK9 := Lib.hid ((HKr.out.trans KD (fun _ _ h => h)).trans hk9 (fun _ _ h => h))
              refine ⟨by rfl, trivial, ?_⟩
              go_wp2
              go_ret
              exact ⟨by rw [HG.out] <;> rfl, HK9.out⟩
          · have HG := Lib.hid (HNe.out (fun e => hdd (by simp only [Chg.mk.injEq] at e; exact e.2.1)))
            rw [decide_eq_true hkk] at hse hsn
            clear hkk
            rcases del with _ | _ <;> rcases del2 with _ | _
            · exact (hdd rfl).elim
            · clear hdd
              go_wp2
              refine Canon.row [0, 1, 2, 3, 5, 6, 7, 8, 4, 9, 10, 11, 12, 13, 14, 15, 17, 18, 19, 20, 16, 21, 22, 23, 24, 25, 26, 27, 28, 30, 31, 32, 33, 29, 34, 35, 36, 37] (by kernel_rfl) (by kernel_rfl) (by repeat (first | (with_reducible exact Safe.body) | (with_reducible apply Safe.then) | (with_reducible apply Safe.inBlock) | (dsimp +zetaDelta only))) ?_
              simp only [Canon.pick, Canon.wpPlan, List.getElem?_toArray, List.getElem?_cons_zero, List.getElem?_cons_succ]
              have HK9 := Lib.hid (HKr.out.trans ((Keeps.refl (fun _ => False) wr).drew) (fun _ _ h => h))
              go_wp2
              refine ⟨by rfl, trivial, ?_⟩
              go_wp2
              go_ret
              exact ⟨by rw [HG.out] <;> rfl, HK9.out⟩
            · clear hdd
              go_wp2
              refine Canon.row [0, 1, 2, 3, 5, 6, 7, 8, 4, 9, 10, 11, 12, 13, 14, 15, 17, 18, 19, 20, 16, 21, 22, 23, 24, 25, 26, 27, 28, 30, 31, 32, 33, 29, 34, 35, 36, 37] (by kernel_rfl) (by kernel_rfl) (by repeat (first | (with_reducible exact Safe.body) | (with_reducible apply Safe.then) | (with_reducible apply Safe.inBlock) | (dsimp +zetaDelta only))) ?_
              simp only [Canon.pick, Canon.wpPlan, List.getElem?_toArray, List.getElem?_cons_zero, List.getElem?_cons_succ]
              have HK9 := Lib.hid (HKr.out.trans ((Keeps.refl (fun _ => False) wr).drew) (fun _ _ h => h))
              go_wp2
              refine ⟨by rfl, trivial, ?_⟩
              go_wp2
              go_ret
              exact ⟨by rw [HG.out] <;> rfl, HK9.out⟩
            · exact (hdd rfl).elim
        · have HG := Lib.hid (HNe.out (fun e => hkk (by simp only [Chg.mk.injEq] at e; exact e.1)))
          rw [decide_eq_false hkk] at hse hsn
          clear hkk
          go_wp2
          refine Canon.row [0, 1, 2, 3, 5, 6, 7, 8, 4, 9, 10, 11, 12, 13, 14, 15, 17, 18, 19, 20, 16, 21, 22, 23, 24, 25, 26, 27, 28, 30, 31, 32, 33, 29, 34, 35, 36, 37] (by kernel_rfl) (by kernel_rfl) (by repeat (first | (with_reducible exact Safe.body) | (with_reducible apply Safe.then) | (with_reducible apply Safe.inBlock) | (dsimp +zetaDelta only))) ?_
          simp only [Canon.pick, Canon.wpPlan, List.getElem?_toArray, List.getElem?_cons_zero, List.getElem?_cons_succ]
          have HK9 := Lib.hid (HKr.out.trans ((Keeps.refl (fun _ => False) wr).drew) (fun _ _ h => h))
          go_wp2
          refine ⟨by rfl, trivial, ?_⟩
          go_wp2
          go_ret
          exact ⟨by rw [HG.out] <;> rfl, HK9.out⟩
      · obtain rfl : k = a.length := by omega
        have HG := Lib.hid (show decide (a = b) = true from decide_eq_true (by have := HF.out; rw [List.take_length, HN.out, List.take_length] at this; exact this))
        clear hkr
        go_wp2
        go_ret
        exact ⟨by rw [HG.out] <;> rfl, HKr.out⟩
  · have hq : ((a.length : Int) != b.length) = true := by simp; omega
    have HG := Lib.hid (show decide (a = b) = false from decide_eq_false (fun e => hn (by rw [e])))
    go_enter Try.func17, Try.ntmps17
    go_wp2
    go_ret
    exact ⟨by rw [HG.out] <;> rfl, Keeps.refl _ _⟩
end Go.Proofs.Ytbiohidelhfaiaa
end

section
namespace Go.Proofs.Ytbiohidelhfaiaa
open Go.RowKit Go.Canon Go.Mem Go.Args
open Go.Proofs.Ytbiohidelhfaiaa.Sto (Chg)
set_option linter.unusedVariables false
set_option linter.unusedSimpArgs false
theorem cut4_c (l : List Int) (n : Nat) (w : World) : Calls Try.prog 21 #[.string (str l), .int .i64 n] w (Rets (Only (.string (str (l.take n))) w)) := by
  have hs := str_size l
  by_cases h : n < l.length
  · have HE := Lib.hid (slice_to (l := l) (j := n) (by omega))
    have hc := HE.out w
    generalize str l = s at *
    go_enter Try.func21, Try.ntmps21
    go_wp2
    go_ret
    exact ⟨rfl, rfl⟩
  · have e : l.take n = l := List.take_of_length_le (by omega)
    rw [e]
    generalize str l = s at *
    go_enter Try.func21, Try.ntmps21
    go_wp2
    go_ret
    exact ⟨rfl, rfl⟩
def cutC (c : Chg) : Chg := ⟨c.key.take 60, c.del, c.val.take 4200⟩
def fewC (l : List Chg) : List Chg := (l.take 20).map cutC
/-- Changes whose texts are bytes. -/
def ChgW (l : List Chg) : Prop := ∀ c ∈ l, IsB c.key ∧ IsB c.val ∧ c.key.length ≤ maxLen ∧ c.val.length ≤ maxLen
theorem fewC_B {l : List Chg} (h : ChgW l) : ChgB (fewC l) := by
  intro c hc
  obtain ⟨d, hd, rfl⟩ := List.mem_map.1 hc
  obtain ⟨h1, h2, _, _⟩ := h d (List.mem_of_mem_take hd)
  refine ⟨fun x hx => h1 x (List.mem_of_mem_take hx), fun x hx => h2 x (List.mem_of_mem_take hx), ?_, ?_⟩
  · simp only [cutC, List.length_take]; omega
  · simp only [cutC, List.length_take]; omega
theorem fewC_len (l : List Chg) : (fewC l).length ≤ 20 := by unfold fewC; rw [List.length_map, List.length_take]; omega
theorem ChgB.wide {l : List Chg} (h : ChgB l) : ChgW l := fun c hc => by
  obtain ⟨h1, h2, h3, h4⟩ := h c hc
  refine ⟨h1, h2, ?_, ?_⟩ <;> simp only [maxLen] <;> omega
theorem cutC_cutC (c : Chg) : cutC (cutC c) = cutC c := by unfold cutC; simp [List.take_take]
theorem fewC_fewC (l : List Chg) : fewC (fewC l) = fewC l := by
  unfold fewC
  rw [← List.map_take, List.map_map, List.take_take, Nat.min_self]
  congr 1
  funext c
  exact cutC_cutC c
theorem few_next {l : List Chg} {k : Nat} (h : k < l.length) : (l.take (k + 1)).map cutC = (l.take k).map cutC ++ [cutC l[k]] := by
  rw [List.take_add_one, List.getElem?_eq_getElem h, List.map_append]; rfl
/-- Changes in memory of the call's own. -/
def FewIs (w : World) (l : List Chg) : Value → World → Prop := fun v w' => Keeps (fun _ => False) w w' ∧ ChgOwn w' (fun j => w.heap.size ≤ j ∧ j < w'.heap.size) v l
set_option maxHeartbeats 6400000 in
set_option maxRecDepth 100000 in
theorem few_c {w : World} {ok : Nat → Prop} (l : List Chg) (hB : ChgW l) (hl : l.length ≤ maxLen) (v : Value) (h : Chgs w ok v l) (hok : ∀ k, ok k → k < w.heap.size) : Calls Try.prog 9 #[v] w (Rets (FewIs w (fewC l))) := by
  obtain ⟨A, c, rfl, hlc, _, _⟩ := id h
  have H := Lib.hid h
  have HB := Lib.hid hB
  have hl := (by simp only [maxLen] at hl; exact hl : l.length ≤ 9223372036854775807)
  clear h hB
  go_enter Try.func9, Try.ntmps9
  go_wp2
  go_loopw [3, 4] (fun ov iv wr => ∃ k : Nat, k ≤ l.length ∧ k ≤ 20 ∧ iv = .int .i64 k ∧ Keeps (fun _ => False) w wr ∧ ChgOwn wr (fun j => w.heap.size ≤ j ∧ j < wr.heap.size) ov ((l.take k).map cutC)) (fun _ iv _ => 20 - (intOf iv).toNat)
  case atStart => exact ⟨0, Nat.zero_le _, Nat.zero_le _, rfl, Keeps.refl _ _, ChgOwn.nil _ _⟩
  case round =>
    obtain ⟨k, hk, hk20, rfl, hkr, hO⟩ := hrel
    have HKr := Lib.hid hkr
    have HO := Lib.hid hO
    have hwr := hkr.size
    obtain ⟨Al, cl, rfl, _⟩ := hO.slice
    have hlen : ((l.take k).map cutC).length = k := by rw [List.length_map, List.length_take]; omega
    rw [hlen] at HO ⊢
    by_cases hlt : k < l.length ∧ k < 20
    · obtain ⟨hlt, h20⟩ := hlt
      obtain ⟨A', c', e, _, _, hin⟩ := H.out
      cases e
      obtain ⟨b, o, e, hb, vV, c0, c1, c2, hrV⟩ := hin k _ (List.getElem?_eq_getElem hlt)
      cases e
      obtain ⟨Av, cv, rfl, _⟩ := hrV.slice
      obtain ⟨hb1, hb2, hb3, hb4⟩ := HB.out _ (List.getElem_mem hlt)
      have HN := Lib.hid (few_next hlt)
      have c0 := hkr.cell c0 (fun h => h)
      have c1 := hkr.cell c1 (fun h => h)
      have c2 := hkr.cell c2 (fun h => h)
      have hbw := hok b hb
      have HRV := Lib.hid ((hrV.mono (ok' := fun j => j < w.heap.size) hok).kept hkr (fun _ _ h => h))
      generalize l[k] = d at *
      obtain ⟨key, del, val⟩ := d
      simp only at c0 c1 c2 hb1 hb2 hb3 hb4 HRV
      have hb3 := (by simp only [maxLen] at hb3; exact hb3 : key.length ≤ 9223372036854775807)
      have zk := str_size key
      have HKs := Lib.hid (show True from trivial)
      clear hin hrV hkr hb1 hb2 hb4
      by_cases h60 : 60 < key.length
      · have HSl := Lib.hid (slice_to (l := key) (j := 60) (by omega))
        have HEx := Lib.hid (show (str key).extract 0 60 = str (key.take 60) by rw [str_cut]; simp)
        have HN2 := Lib.hid (show (l.take (k + 1)).map cutC = (l.take k).map cutC ++ [⟨key.take 60, del, val.take 4200⟩] from HN.out)
        go_wp2_with (first
          | ((with_reducible refine at_ 5 rfl ?_); go_must (refine step_alloc rfl _ rfl _ chgZ row_chg rfl ?_); intro w3 hb3' hk3 hs3)
          | ((with_reducible refine at_store 41 (.tmp 5) (.tmp 19) rfl ?_); go_must (refine step_store rfl _ _ _ rfl wr.heap.size 0 [.string (str key), .bool del, .slice Av val.length cv] _ _ rfl rfl hb3' (by simp [chgZ]) info_chg (by simp [Value.oneCell']) ?_); intro w4 hb4' hk4 hs4; rw [put_whole (by rfl)] at hb4'; have d0 : w4.cell? ⟨wr.heap.size, 0, none⟩ = some (.string (str key)) := cell_of_row w4 _ _ _ _ _ hb4'; have d2 : w4.cell? ⟨wr.heap.size, 2, none⟩ = some (.slice Av val.length cv) := cell_of_row w4 _ _ _ _ _ hb4'; have hsl := HSl.out w4; have HK4 := Lib.hid (((Keeps.refl (fun _ => False) wr).trans hk3 (fun _ _ h => h) |>.mono (S' := fun j => wr.heap.size ≤ j) (fun _ _ h => h.elim)).trans hk4 (fun j _ h => by omega) |>.mono (S' := fun _ => False) (fun j hj h => by omega)); have HB4 := Lib.hid hb4'; have hz4 : wr.heap.size < w4.heap.size := by omega)
          | ((with_reducible refine at_store 9 (.tmp 27) (.tmp 26) rfl ?_); go_must (rw [HEx.out]; refine step_store1 rfl _ _ _ rfl wr.heap.size 0 (.string (str (key.take 60))) _ _ rfl rfl rfl hb4' (by simp) info_str ?_); intro w5 hb5' hk5 hs5; have d2 : w5.cell? ⟨wr.heap.size, 2, none⟩ = some (.slice Av val.length cv) := cell_of_row w5 _ _ _ _ _ hb5'; have HK5 := Lib.hid ((HK4.out.mono (S' := fun j => wr.heap.size ≤ j) (fun _ _ h => h.elim)).trans hk5 (fun j _ h => by omega) |>.mono (S' := fun _ => False) (fun j hj h => by omega)); have HB5 := Lib.hid hb5'; have hz5 : wr.heap.size < w5.heap.size := by omega)
          | (go_at_call 10; refine Rets.use (cut_c _ val (HRV.out.kept HK5.out (fun _ _ h => h)) 4200) ?_; rintro v7 _ ⟨hr7, rfl⟩)
          | (go_at_call 11; refine Rets.use (copy_c v7 (val.take 4200) hr7 (by rw [List.length_take]; omega)) ?_; rintro v8 w8 hO8; have hk8 := hO8.2; have hz8 := hk8.size; have hb8' := hk8.heap HB5.out (fun h => h); have hone := Rd.one hO8.1.rd)
          | ((with_reducible refine at_store 23 (.tmp 32) (.tmp 31) rfl ?_); go_must (refine step_store1 rfl _ _ _ rfl wr.heap.size 2 v8 _ _ rfl rfl hone hb8' (by simp) info_bytes ?_); intro w9 hb9' hk9 hs9; have hb9' : w9.heap[wr.heap.size]? = some (.cells (chgC ⟨key.take 60, del, val.take 4200⟩ v8).toArray 41 (0, 0)) := hb9'; have HK9 := Lib.hid (((HK5.out.trans hk8 (fun _ _ h => h)).mono (S' := fun j => wr.heap.size ≤ j) (fun _ _ h => h.elim)).trans hk9 (fun j _ h => by omega) |>.mono (S' := fun _ => False) (fun j hj h => by omega)); have HV9 := Lib.hid ((hO8.1.mono (ok' := fun j => w5.heap.size ≤ j ∧ j < w8.heap.size) (fun j hj h => ⟨h, hj⟩)).kept hk9 (fun j h e => by omega)); have HO9 := Lib.hid (HO.out.kept HK9.out (fun _ _ h => h)))
          | ((with_reducible refine at_ 34 rfl ?_); go_must (refine step_load rfl _ _ rfl wr.heap.size 0 (chgC ⟨key.take 60, del, val.take 4200⟩ v8) _ _ _ _ rfl hb9' rfl Try.underlying41 rfl (info_chgC _ _) ?_))
          | ((with_reducible refine at_ 35 rfl ?_); go_must (refine step_lit rfl 22 _ 1 rfl [.agg (chgC ⟨key.take 60, del, val.take 4200⟩ v8).toArray] rfl rfl (by decide) 41 _ 3 Try.underlying22 row2_chg (by decide) (by decide) (by intro v hv; rw [List.mem_singleton] at hv; subst hv; exact chgC_cells _ v8 hone) ?_); intro w10 hb10 hk10 hs10)
          | ((with_reducible refine at_ 36 rfl ?_); go_must (refine step_push (ok := fun j => w.heap.size ≤ j) rfl _ _ rfl (.slice Al k cl) ((l.take k).map cutC) rfl ((HO9.out.mono (fun j _ h => h.1)).kept hk10 (fun _ _ h => h)) ⟨key.take 60, del, val.take 4200⟩ v8 w9.heap.size rfl (by rw [hb10]; exact congrArg _ (congrArg (fun z => Obj.cells z _ _) (chgC_flat _ v8 hone))) ((HV9.out.mono (fun j _ h => Nat.le_trans hwr (Nat.le_trans (Nat.le_of_lt (by first | exact hz5 | exact hz4)) h.1))).kept hk10 (fun _ _ h => h)) (fun j h e => by have h1 := (HO9.out.blk j h).2; have h2 := (HV9.out.2 j e).1; omega) (by rw [hlen]; omega) ?_); intro v11 w11 hO11 hk11; have HK11 := Lib.hid (((HK9.out.trans hk10 (fun _ _ h => h)).mono (S' := fun j => w.heap.size ≤ j) (fun _ _ h => h.elim)).trans hk11 (fun j _ h => (HO9.out.blk j h).1) |>.mono (S' := fun j => w.heap.size ≤ j) (fun _ _ h => h))))
        go_roundw
        case rel => exact ⟨k + 1, hlt, h20, by go_num, (HKr.out.mono (S' := fun j => w.heap.size ≤ j) (fun _ _ h => h.elim)).trans HK11.out (fun _ _ h => h) |>.mono (fun j hj h => by omega), by rw [HN2.out]; exact hO11.mono (fun j hj h => ⟨h.elim (fun h => h) (fun h => by omega), hj⟩)⟩
        case measure => simp [intOf]; omega
      · have HSl := Lib.hid (slice_to (l := key) (j := 0) (by omega))
        have HN2 := Lib.hid (show (l.take (k + 1)).map cutC = (l.take k).map cutC ++ [⟨key, del, val.take 4200⟩] by rw [HN.out]; unfold cutC; rw [List.take_of_length_le (show key.length ≤ 60 by omega)])
        go_wp2_with (first
          | ((with_reducible refine at_ 5 rfl ?_); go_must (refine step_alloc rfl _ rfl _ chgZ row_chg rfl ?_); intro w3 hb3' hk3 hs3)
          | ((with_reducible refine at_store 41 (.tmp 5) (.tmp 19) rfl ?_); go_must (refine step_store rfl _ _ _ rfl wr.heap.size 0 [.string (str key), .bool del, .slice Av val.length cv] _ _ rfl rfl hb3' (by simp [chgZ]) info_chg (by simp [Value.oneCell']) ?_); intro w4 hb4' hk4 hs4; rw [put_whole (by rfl)] at hb4'; have d0 : w4.cell? ⟨wr.heap.size, 0, none⟩ = some (.string (str key)) := cell_of_row w4 _ _ _ _ _ hb4'; have d2 : w4.cell? ⟨wr.heap.size, 2, none⟩ = some (.slice Av val.length cv) := cell_of_row w4 _ _ _ _ _ hb4'; have hsl := HSl.out w4; have HK4 := Lib.hid (((Keeps.refl (fun _ => False) wr).trans hk3 (fun _ _ h => h) |>.mono (S' := fun j => wr.heap.size ≤ j) (fun _ _ h => h.elim)).trans hk4 (fun j _ h => by omega) |>.mono (S' := fun _ => False) (fun j hj h => by omega)); have HB4 := Lib.hid hb4'; have hz4 : wr.heap.size < w4.heap.size := by omega)
          | (go_at_call 10; refine Rets.use (cut_c _ val (HRV.out.kept HK4.out (fun _ _ h => h)) 4200) ?_; rintro v7 _ ⟨hr7, rfl⟩)
          | (go_at_call 11; refine Rets.use (copy_c v7 (val.take 4200) hr7 (by rw [List.length_take]; omega)) ?_; rintro v8 w8 hO8; have hk8 := hO8.2; have hz8 := hk8.size; have hb8' := hk8.heap HB4.out (fun h => h); have hone := Rd.one hO8.1.rd)
          | ((with_reducible refine at_store 23 (.tmp 32) (.tmp 31) rfl ?_); go_must (refine step_store1 rfl _ _ _ rfl wr.heap.size 2 v8 _ _ rfl rfl hone hb8' (by simp) info_bytes ?_); intro w9 hb9' hk9 hs9; have hb9' : w9.heap[wr.heap.size]? = some (.cells (chgC ⟨key, del, val.take 4200⟩ v8).toArray 41 (0, 0)) := hb9'; have HK9 := Lib.hid (((HK4.out.trans hk8 (fun _ _ h => h)).mono (S' := fun j => wr.heap.size ≤ j) (fun _ _ h => h.elim)).trans hk9 (fun j _ h => by omega) |>.mono (S' := fun _ => False) (fun j hj h => by omega)); have HV9 := Lib.hid ((hO8.1.mono (ok' := fun j => w4.heap.size ≤ j ∧ j < w8.heap.size) (fun j hj h => ⟨h, hj⟩)).kept hk9 (fun j h e => by omega)); have HO9 := Lib.hid (HO.out.kept HK9.out (fun _ _ h => h)))
          | ((with_reducible refine at_ 34 rfl ?_); go_must (refine step_load rfl _ _ rfl wr.heap.size 0 (chgC ⟨key, del, val.take 4200⟩ v8) _ _ _ _ rfl hb9' rfl Try.underlying41 rfl (info_chgC _ _) ?_))
          | ((with_reducible refine at_ 35 rfl ?_); go_must (refine step_lit rfl 22 _ 1 rfl [.agg (chgC ⟨key, del, val.take 4200⟩ v8).toArray] rfl rfl (by decide) 41 _ 3 Try.underlying22 row2_chg (by decide) (by decide) (by intro v hv; rw [List.mem_singleton] at hv; subst hv; exact chgC_cells _ v8 hone) ?_); intro w10 hb10 hk10 hs10)
          | ((with_reducible refine at_ 36 rfl ?_); go_must (refine step_push (ok := fun j => w.heap.size ≤ j) rfl _ _ rfl (.slice Al k cl) ((l.take k).map cutC) rfl ((HO9.out.mono (fun j _ h => h.1)).kept hk10 (fun _ _ h => h)) ⟨key, del, val.take 4200⟩ v8 w9.heap.size rfl (by rw [hb10]; exact congrArg _ (congrArg (fun z => Obj.cells z _ _) (chgC_flat _ v8 hone))) ((HV9.out.mono (fun j _ h => Nat.le_trans hwr (Nat.le_trans (Nat.le_of_lt (by first | exact hz5 | exact hz4)) h.1))).kept hk10 (fun _ _ h => h)) (fun j h e => by have h1 := (HO9.out.blk j h).2; have h2 := (HV9.out.2 j e).1; omega) (by rw [hlen]; omega) ?_); intro v11 w11 hO11 hk11; have HK11 := Lib.hid (((HK9.out.trans hk10 (fun _ _ h => h)).mono (S' := fun j => w.heap.size ≤ j) (fun _ _ h => h.elim)).trans hk11 (fun j _ h => (HO9.out.blk j h).1) |>.mono (S' := fun j => w.heap.size ≤ j) (fun _ _ h => h))))
        go_roundw
        case rel => exact ⟨k + 1, hlt, h20, by go_num, (HKr.out.mono (S' := fun j => w.heap.size ≤ j) (fun _ _ h => h.elim)).trans HK11.out (fun _ _ h => h) |>.mono (fun j hj h => by omega), by rw [HN2.out]; exact hO11.mono (fun j hj h => ⟨h.elim (fun h => h) (fun h => by omega), hj⟩)⟩
        case measure => simp [intOf]; omega
    · have e : (l.take k).map cutC = fewC l := by
        unfold fewC
        congr 1
        rcases Nat.lt_or_ge k l.length with h | h
        · rw [show k = 20 by omega]
        · rw [List.take_of_length_le h, List.take_of_length_le (by omega)]
      rw [e] at HO
      by_cases hkl : k < l.length
      · obtain rfl : k = 20 := by omega
        go_wp2
        go_ret
        exact ⟨HKr.out, HO.out⟩
      · go_wp2
        go_ret
        exact ⟨HKr.out, HO.out⟩
end Go.Proofs.Ytbiohidelhfaiaa
end

section
namespace Go.Proofs.Ytbiohidelhfaiaa
open Go.RowKit Go.Canon Go.Mem Go.Args
open Go.Proofs.Ytbiohidelhfaiaa.Sto (Chg)
set_option linter.unusedVariables false
set_option linter.unusedSimpArgs false
/-! ### the arguments -/
abbrev KChg : Kd := .slice (.st (.fld .str (.fld .bool (.fld (.slice (.int .u8)) .fin))))
def toC (d : ByteArray × Bool × List Int × Unit) : Chg := ⟨bytesOf d.1, d.2.1, d.2.2.1⟩
theorem bytesOf_len (s : ByteArray) : (bytesOf s).length = s.size := by
  have := str_size (bytesOf s)
  rw [← str_of] at this
  exact this.symm
theorem chg_byte {w : World} {v : Value} {l : List Int} (h : Has w (.slice (.int .u8)) [v] l) : IsB l := by
  obtain ⟨A, c, _, _, _, _, h5⟩ := h
  intro x hx
  obtain ⟨i, hi, rfl⟩ := List.getElem_of_mem hx
  obtain ⟨a, es, _, _, _, h6⟩ := h5 i l[i] (List.getElem?_eq_getElem hi)
  have := h6.2
  simp [Lit.wf, IntKind.min, IntKind.max, IntKind.signed, IntKind.bits] at this
  omega
theorem KChg_of {W : World} {A : Option Addr} {n c : Nat} {x : List (ByteArray × Bool × List Int × Unit)} (H : Has W KChg [.slice A n c] x) : ∃ l : List Chg, ChgW l ∧ l.length ≤ maxLen ∧ Chgs W (fun k => k < W.heap.size) (.slice A n c) l := by
  obtain ⟨A', c', e, hlc, hcm, hz, hin⟩ := id H
  cases e
  refine ⟨x.map toC, ?_, by rw [List.length_map]; exact Nat.le_trans hlc hcm, A, c, by rw [List.length_map]; rfl, by rw [List.length_map]; exact hlc, hz, ?_⟩
  · intro d hd
    obtain ⟨y, hy, rfl⟩ := List.mem_map.1 hd
    obtain ⟨i, hi⟩ := List.mem_iff_getElem?.1 hy
    obtain ⟨a, es, _, _, _, hh⟩ := hin i y hi
    obtain ⟨c0, r0, _, _, ⟨_, hs⟩, c1, r1, _, _, _, c2, r2, _, h3, hb, _⟩ := hh
    obtain ⟨v, rfl⟩ : ∃ v, c2 = [v] := by
      cases c2 with
      | nil => cases h3
      | cons v t => cases t with
        | nil => exact ⟨v, rfl⟩
        | cons => cases h3
    exact ⟨bytesOf_byte _, chg_byte hb, by show (bytesOf y.1).length ≤ maxLen; rw [bytesOf_len]; exact hs, (Has.bytes hb).2⟩
  · intro i d hi
    rw [List.getElem?_map] at hi
    cases hx : x[i]? with
    | none => rw [hx] at hi; cases hi
    | some y =>
      rw [hx] at hi
      simp only [Option.map_some, Option.some.injEq] at hi
      subst hi
      have hpos : 0 < x.length := by have := (List.getElem?_eq_some_iff.1 hx).1; omega
      obtain ⟨b, o, c', e, _, _, hbW⟩ := Has.plain H (by decide) hpos
      cases e
      obtain ⟨es, hes, hcell, hh⟩ := Has.elem H hx
      obtain ⟨c0, r0, rfl, _, ⟨rfl, hs⟩, c1, r1, rfl, _, rfl, c2, r2, rfl, h3, hb, rfl⟩ := hh
      obtain ⟨v, rfl⟩ : ∃ v, c2 = [v] := by
        cases c2 with
        | nil => cases h3
        | cons v t => cases t with
          | nil => exact ⟨v, rfl⟩
          | cons => cases h3
      refine ⟨b, o, rfl, hbW, v, ?_, ?_, ?_, (Has.bytes hb).1⟩
      · have := hcell 0 _ rfl
        show W.cell? ⟨b, o + i * 3, none⟩ = some (.string (str (bytesOf y.1)))
        rw [← str_of]
        exact this
      · have := hcell 1 _ rfl
        exact this
      · have := hcell 2 _ rfl
        exact this
theorem encL_byte {l : List Chg} (hB : ChgB l) (hl : l.length ≤ 1000000) : IsB (Sto.encL l) := by
  have h9 : ∀ x, x < 18446744073709551616 → IsB (Sto.varF x) := fun x hx => var_byte 9 x (by
    have h10 : (128 : Nat) ^ (9 + 1) = 1180591620717411303424 := by decide
    omega)
  unfold Sto.encL
  refine (h9 _ (by omega)).app ?_
  intro x hx
  obtain ⟨c, hc, hx⟩ := List.mem_flatMap.1 hx
  obtain ⟨h1, h2, h3, h4⟩ := hB c hc
  unfold Sto.enc1 at hx
  rcases List.mem_cons.1 hx with h | h
  · split at h <;> omega
  · have hk : IsB (Sto.counted c.key) := (h9 _ (by omega)).app h1
    have hv : IsB (Sto.counted c.val) := (h9 _ (by omega)).app h2
    rcases List.mem_append.1 h with h | h
    · exact hk x h
    · split at h
      · simp at h
      · exact hv x h
theorem encL_len {l : List Chg} (h : Sto.chk l = 0) : (Sto.encL l).length ≤ 100000 := by
  have h1 := Sto.chk_good h
  have h2 := encs_len l (fun c hc => ⟨(h1.1 c hc).2.1, (h1.1 c hc).2.2⟩)
  have h3 := varF_len l.length
  unfold Sto.encL
  rw [List.length_append]; omega
end Go.Proofs.Ytbiohidelhfaiaa
end

section
namespace Go.Proofs.Ytbiohidelhfaiaa
open Go.RowKit Go.Canon Go.Mem Go.Args
open Go.Proofs.Ytbiohidelhfaiaa.Sto (Chg)
set_option linter.unusedVariables false
set_option linter.unusedSimpArgs false
set_option maxHeartbeats 6400000 in
set_option maxRecDepth 100000 in
theorem back11_in (W : World) (v vb : Value) (l : List Chg) (b : List Int) (hB : ChgW l) (hl : l.length ≤ maxLen) (h : Chgs W (fun k => k < W.heap.size) v l) (hr : Rd W (fun k => k < W.heap.size) vb b.length (Disk.bytes8 b)) (hb : IsB b) : Calls Try.prog 4 #[v, vb] W (Rets (Yes W)) := by
  have HF := Lib.hid (few_c l hB hl v h (fun _ h => h))
  have HCu := Lib.hid (fun (w' : World) (K : Keeps (fun _ => False) W w') => cut_c vb b (hr.kept K (fun _ _ h => h)) 9000)
  have hB1 := fewC_B hB
  have hl1 := fewC_len l
  have hbb : IsB (b.take 9000) := hb.take _
  have hbl : (b.take 9000).length ≤ 9000 := by rw [List.length_take]; omega
  obtain ⟨A, c, hv, _⟩ := id h
  obtain ⟨Ab, cb, hvb, _⟩ := hr.slice
  clear h hB hr hb
  generalize fewC l = l1 at *
  generalize b.take 9000 = b1 at *
  have HB1 := Lib.hid hB1
  have HBb := Lib.hid hbb
  have HEn := Lib.hid (fun (w' : World) (ok : Nat → Prop) (v : Value) (h : Chgs w' ok v l1) (hok : ∀ k, ok k → k < w'.heap.size) => encode_c l1 hB1 (by omega) v h hok)
  have HDe := Lib.hid (fun (w' : World) (ok : Nat → Prop) (v : Value) (h : Rd w' ok v b1.length (Disk.bytes8 b1)) (hok : ∀ k, ok k → k < w'.heap.size) => decode_c v b1 h hbb (by omega) hok)
  have HDc := Lib.hid (Sto.dec_cases b1 hbb)
  clear hbb hB1
  subst hv hvb
  by_cases hz : Sto.chk l1 = 0
  · have HE1 := Lib.hid (show Sto.enc l1 = (Sto.encL l1, 0) by unfold Sto.enc; rw [if_neg (fun h => h hz)])
    rw [HE1.out] at HEn
    have hel := encL_len hz
    have HDe1 := Lib.hid (fun (w' : World) (ok : Nat → Prop) (v : Value) (h : Rd w' ok v (Sto.encL l1).length (Disk.bytes8 (Sto.encL l1))) (hok : ∀ k, ok k → k < w'.heap.size) => decode_c v (Sto.encL l1) h (encL_byte HB1.out (by omega)) (by omega) hok)
    rw [Sto.dec_enc hz] at HDe1
    have HAl := Lib.hid (fun (w' : World) (ok ok2 : Nat → Prop) (v v2 : Value) (h : Chgs w' ok v l1) (h2 : Chgs w' ok2 v2 l1) => alike_c l1 l1 HB1.out HB1.out (by omega) (by omega) v v2 h h2)
    rw [decide_eq_true (rfl : l1 = l1)] at HAl
    generalize Sto.encL l1 = E at *
    clear hz HE1
    rcases HDc.out with hd | ⟨l2, hd, he, hc⟩
    · rw [hd] at HDe
      clear HDc hd
      go_enter Try.func4, Try.ntmps4
      go_wp2_with (first
        | (go_at_call 14; refine Rets.use (HDe.out _ _ _ hr5 (fun k (h : k < W.heap.size) => by omega)) ?_; rintro _ w6 ⟨hk6, u6, rfl, hO6⟩; obtain ⟨A6, c6, rfl, _⟩ := hO6.slice; have hz6 := hk6.size; have hr6 := hr5.kept hk6 (fun _ _ h => h))
        | (go_at_call 14; refine Rets.use (HDe1.out _ (fun j => w1.heap.size ≤ j ∧ j < w3.heap.size) _ (hO3.mono (fun j hj h => ⟨h, hj⟩)).rd (fun k h => h.2)) ?_; rintro _ w4 ⟨hk4, u4, rfl, hO4⟩; have hz4 := hk4.size)
        | (go_at_call 17; refine Rets.use (HAl.out _ _ _ _ _ hO4.chgs (hc1.kept hk4 (fun _ _ h => h))) ?_; rintro _ w5 ⟨rfl, hk5⟩; have hz5 := hk5.size; have hr5 := (hr3.kept hk4 (fun _ _ h => h)).kept hk5 (fun _ _ h => h))
        | (go_at_call 9; refine Rets.use HF.out ?_; rintro v1 w1 ⟨hk1, hO1⟩)
        | (go_at_call 10; refine Rets.use (HCu.out _ hk1) ?_; rintro v2 _ ⟨hr2, rfl⟩; have hwW := hk1.size)
        | (go_at_call 12; refine Rets.use (HEn.out _ _ _ hO1.chgs (fun k h => h.2)) ?_; rintro _ w3 ⟨hk3, u3, rfl, hO3⟩; have hz3 := hk3.size; have hc1 := hO1.chgs.kept hk3 (fun _ _ h => h); have hr3 := hr2.kept hk3 (fun _ _ h => h); have hk5 := hk3)
        | (go_at_call 14; refine Rets.use (HDe.out _ _ _ hr3 (fun k (h : k < W.heap.size) => by omega)) ?_; rintro _ w6 ⟨hk6, u6, rfl, hO6⟩; obtain ⟨A6, c6, rfl, _⟩ := hO6.slice; have hz6 := hk6.size; have hr6 := hr3.kept hk6 (fun _ _ h => h))
        | (go_at_call 20; refine Rets.use (lives11_c _) ?_; rintro v9 w9 ⟨rfl, hk9⟩))
      go_ret
      exact ⟨rfl, (((hk1.trans hk3 (fun _ _ h => h)).trans hk4 (fun _ _ h => h)).trans hk5 (fun _ _ h => h)).trans hk6 (fun _ _ h => h) |>.trans hk9 (fun _ _ h => h)⟩
    · rw [hd] at HDe
      have HEn2 := Lib.hid (show Sto.enc l2 = (b1, 0) by unfold Sto.enc; rw [if_neg (fun h => h hc), he])
      have hl2 := (Sto.chk_good hc).2.2
      have HB2 := Lib.hid (show ChgB l2 by have := (dec_chgB HBb.out).1; rw [hd] at this; exact this)
      have HEc2 := Lib.hid (fun (w' : World) (ok : Nat → Prop) (v : Value) (h : Chgs w' ok v l2) (hok : ∀ k, ok k → k < w'.heap.size) => encode_c l2 HB2.out (by omega) v h hok)
      rw [HEn2.out] at HEc2
      clear HDc hd he hc
      go_enter Try.func4, Try.ntmps4
      go_wp2_with (first
        | (go_at_call 12; refine Rets.use (HEc2.out _ (fun j => j < w6.heap.size) _ ((hO6.mono (ok' := fun j => j < w6.heap.size) (fun j hj _ => hj)).chgs) (fun k h => h)) ?_; rintro _ w7 ⟨hk7, u7, rfl, hO7⟩; have hr7 := hr6.kept hk7 (fun _ _ h => h))
        | (go_at_call 16; refine Rets.use (same_c _ _ b1 b1 hO7.rd hr7 (by omega)) ?_; rintro _ w8 ⟨rfl, hk8⟩; rw [decide_eq_true (rfl : b1 = b1)])
        | (go_at_call 14; refine Rets.use (HDe.out _ _ _ hr5 (fun k (h : k < W.heap.size) => by omega)) ?_; rintro _ w6 ⟨hk6, u6, rfl, hO6⟩; obtain ⟨A6, c6, rfl, _⟩ := hO6.slice; have hz6 := hk6.size; have hr6 := hr5.kept hk6 (fun _ _ h => h))
        | (go_at_call 14; refine Rets.use (HDe1.out _ (fun j => w1.heap.size ≤ j ∧ j < w3.heap.size) _ (hO3.mono (fun j hj h => ⟨h, hj⟩)).rd (fun k h => h.2)) ?_; rintro _ w4 ⟨hk4, u4, rfl, hO4⟩; have hz4 := hk4.size)
        | (go_at_call 17; refine Rets.use (HAl.out _ _ _ _ _ hO4.chgs (hc1.kept hk4 (fun _ _ h => h))) ?_; rintro _ w5 ⟨rfl, hk5⟩; have hz5 := hk5.size; have hr5 := (hr3.kept hk4 (fun _ _ h => h)).kept hk5 (fun _ _ h => h))
        | (go_at_call 9; refine Rets.use HF.out ?_; rintro v1 w1 ⟨hk1, hO1⟩)
        | (go_at_call 10; refine Rets.use (HCu.out _ hk1) ?_; rintro v2 _ ⟨hr2, rfl⟩; have hwW := hk1.size)
        | (go_at_call 12; refine Rets.use (HEn.out _ _ _ hO1.chgs (fun k h => h.2)) ?_; rintro _ w3 ⟨hk3, u3, rfl, hO3⟩; have hz3 := hk3.size; have hc1 := hO1.chgs.kept hk3 (fun _ _ h => h); have hr3 := hr2.kept hk3 (fun _ _ h => h); have hk5 := hk3)
        | (go_at_call 14; refine Rets.use (HDe.out _ _ _ hr3 (fun k (h : k < W.heap.size) => by omega)) ?_; rintro _ w6 ⟨hk6, u6, rfl, hO6⟩; obtain ⟨A6, c6, rfl, _⟩ := hO6.slice; have hz6 := hk6.size; have hr6 := hr3.kept hk6 (fun _ _ h => h))
        | (go_at_call 20; refine Rets.use (lives11_c _) ?_; rintro v9 w9 ⟨rfl, hk9⟩))
      go_ret
      exact ⟨rfl, ((((((hk1.trans hk3 (fun _ _ h => h)).trans hk4 (fun _ _ h => h)).trans hk5 (fun _ _ h => h)).trans hk6 (fun _ _ h => h)).trans hk7 (fun _ _ h => h)).trans hk8 (fun _ _ h => h)) |>.trans hk9 (fun _ _ h => h)⟩
  · have HE1 := Lib.hid (show Sto.enc l1 = ([], Sto.chk l1) by unfold Sto.enc; rw [if_pos hz])
    rw [HE1.out] at HEn
    have hq : (Sto.chk l1 == 0) = false := by rw [beq_eq_false_iff_ne]; exact hz
    generalize Sto.chk l1 = E at *
    clear hz HE1
    rcases HDc.out with hd | ⟨l2, hd, he, hc⟩
    · rw [hd] at HDe
      clear HDc hd
      go_enter Try.func4, Try.ntmps4
      go_wp2_with (first
        | (go_at_call 9; refine Rets.use HF.out ?_; rintro v1 w1 ⟨hk1, hO1⟩)
        | (go_at_call 10; refine Rets.use (HCu.out _ hk1) ?_; rintro v2 _ ⟨hr2, rfl⟩; have hwW := hk1.size)
        | (go_at_call 12; refine Rets.use (HEn.out _ _ _ hO1.chgs (fun k h => h.2)) ?_; rintro _ w3 ⟨hk3, u3, rfl, hO3⟩; have hz3 := hk3.size; have hc1 := hO1.chgs.kept hk3 (fun _ _ h => h); have hr3 := hr2.kept hk3 (fun _ _ h => h); have hk5 := hk3)
        | (go_at_call 14; refine Rets.use (HDe.out _ _ _ hr3 (fun k (h : k < W.heap.size) => by omega)) ?_; rintro _ w6 ⟨hk6, u6, rfl, hO6⟩; obtain ⟨A6, c6, rfl, _⟩ := hO6.slice; have hz6 := hk6.size; have hr6 := hr3.kept hk6 (fun _ _ h => h))
        | (go_at_call 20; refine Rets.use (lives11_c _) ?_; rintro v9 w9 ⟨rfl, hk9⟩))
      go_ret
      exact ⟨rfl, ((hk1.trans hk3 (fun _ _ h => h)).trans hk6 (fun _ _ h => h)).trans hk9 (fun _ _ h => h)⟩
    · rw [hd] at HDe
      have HEn2 := Lib.hid (show Sto.enc l2 = (b1, 0) by unfold Sto.enc; rw [if_neg (fun h => h hc), he])
      have hl2 := (Sto.chk_good hc).2.2
      have HB2 := Lib.hid (show ChgB l2 by have := (dec_chgB HBb.out).1; rw [hd] at this; exact this)
      have HEc2 := Lib.hid (fun (w' : World) (ok : Nat → Prop) (v : Value) (h : Chgs w' ok v l2) (hok : ∀ k, ok k → k < w'.heap.size) => encode_c l2 HB2.out (by omega) v h hok)
      rw [HEn2.out] at HEc2
      clear HDc hd he hc
      go_enter Try.func4, Try.ntmps4
      go_wp2_with (first
        | (go_at_call 12; refine Rets.use (HEc2.out _ (fun j => j < w6.heap.size) _ ((hO6.mono (ok' := fun j => j < w6.heap.size) (fun j hj _ => hj)).chgs) (fun k h => h)) ?_; rintro _ w7 ⟨hk7, u7, rfl, hO7⟩; have hr7 := hr6.kept hk7 (fun _ _ h => h))
        | (go_at_call 16; refine Rets.use (same_c _ _ b1 b1 hO7.rd hr7 (by omega)) ?_; rintro _ w8 ⟨rfl, hk8⟩; rw [decide_eq_true (rfl : b1 = b1)])
        | (go_at_call 9; refine Rets.use HF.out ?_; rintro v1 w1 ⟨hk1, hO1⟩)
        | (go_at_call 10; refine Rets.use (HCu.out _ hk1) ?_; rintro v2 _ ⟨hr2, rfl⟩; have hwW := hk1.size)
        | (go_at_call 12; refine Rets.use (HEn.out _ _ _ hO1.chgs (fun k h => h.2)) ?_; rintro _ w3 ⟨hk3, u3, rfl, hO3⟩; have hz3 := hk3.size; have hc1 := hO1.chgs.kept hk3 (fun _ _ h => h); have hr3 := hr2.kept hk3 (fun _ _ h => h); have hk5 := hk3)
        | (go_at_call 14; refine Rets.use (HDe.out _ _ _ hr3 (fun k (h : k < W.heap.size) => by omega)) ?_; rintro _ w6 ⟨hk6, u6, rfl, hO6⟩; obtain ⟨A6, c6, rfl, _⟩ := hO6.slice; have hz6 := hk6.size; have hr6 := hr3.kept hk6 (fun _ _ h => h))
        | (go_at_call 20; refine Rets.use (lives11_c _) ?_; rintro v9 w9 ⟨rfl, hk9⟩))
      go_ret
      exact ⟨rfl, ((((hk1.trans hk3 (fun _ _ h => h)).trans hk6 (fun _ _ h => h)).trans hk7 (fun _ _ h => h)).trans hk8 (fun _ _ h => h)).trans hk9 (fun _ _ h => h)⟩
theorem storeBack_walk (W : World) (a0 : Option Addr) (len0 cap0 : Nat) (x0 : List (ByteArray × Bool × List Int × Unit)) (H0 : Has W KChg [.slice a0 len0 cap0] x0) (a1 : Option Addr) (len1 cap1 : Nat) (x1 : List Int) (H1 : Has W (.slice (.int .u8)) [.slice a1 len1 cap1] x1) : Calls Try.prog 4 #[.slice a0 len0 cap0, .slice a1 len1 cap1] W (Rets (Yes W)) := by
  obtain ⟨l, h1, h2, h3⟩ := KChg_of H0
  exact back11_in W _ _ l x1 h1 h2 h3 H1.bytes.1 (chg_byte H1)
end Go.Proofs.Ytbiohidelhfaiaa
end
