/-
  RouteParses: the walk.
-/
import Derived.Test.YtomnkdjlljobeaaRouteL
import Derived.Test.YtomnkdjlljobeaaArgs
namespace Go.Proofs.Ytomnkdjlljobeaa
open Go.RowKit Go.Canon Go.Mem Go.Args
set_option linter.unusedVariables false
set_option linter.unusedSimpArgs false
theorem ReqP.cut_cut (r : ReqP) : r.cut.cut = r.cut := by unfold ReqP.cut; simp [List.take_take]
theorem ReqP.cut_len (r : ReqP) : r.cut.target.length ≤ 200 ∧ r.cut.body.length ≤ 2100 := by unfold ReqP.cut; simp only [List.length_take]; omega
theorem same13_self {w : World} {ok ok2 : Nat → Prop} (r : ReqP) (hr : r.Ok) (v u : Value) (h1 : Rd w ok v r.body.length (Disk.bytes8 r.body)) (h2 : Rd w ok2 u r.body.length (Disk.bytes8 r.body)) (hl : r.body.length ≤ 1000000) : Calls Try.prog 30 #[reqV r v, reqV r u] w (Rets (Still (.bool true) w)) := by
  have h := same13_c r r hr hr v u h1 h2 hl
  rw [decide_eq_true rfl] at h
  exact h
theorem same23_self {w : World} {ok ok2 : Nat → Prop} (r : AskP) (hr : r.Ok) (v u : Value) (h1 : Rd w ok v r.body.length (Disk.bytes8 r.body)) (h2 : Rd w ok2 u r.body.length (Disk.bytes8 r.body)) (hl : r.body.length ≤ 1000000) : Calls Try.prog 29 #[askV r v, askV r u] w (Rets (Still (.bool true) w)) := by
  have h := same23_c r r hr hr v u h1 h2 hl
  rw [decide_eq_true rfl] at h
  exact h
theorem reqC_one (r : ReqP) (A : Option Addr) (n c : Nat) : #[Value.string (str r.method), .string (str r.target), .string (str r.token), .slice A n c].all (·.oneCell') = true := by simp [Value.oneCell']
def reqC (r : ReqP) (v : Value) : List Value := [.string (str r.method), .string (str r.target), .string (str r.token), v]
theorem info_reqC (r : ReqP) (v : Value) : (Try.prog.info? 55).map (·.size) = some (reqC r v).length := info_req
theorem row_req : (Try.prog.info? 55).map (fun i => i.zero) = some (some (.agg #[.string ⟨#[]⟩, .string ⟨#[]⟩, .string ⟨#[]⟩, .slice none 0 0])) := by kernel_rfl
theorem numAt_i64 (ps : List (List Int)) (i : Nat) : i64 (numAt ps i) := by
  have h : ∀ l : List Int, i64 (readD l).1 := by
    intro l
    unfold readD
    split
    · rename_i h
      have hv := h.2
      have : l.all digC = true := by have := h.1; unfold okD at this; rw [Bool.and_eq_true, Bool.and_eq_true] at this; exact this.1.2
      have := valF_pos this
      constructor <;> simp only <;> omega
    · constructor <;> simp only <;> omega
  unfold numAt
  split
  · exact h _
  · constructor <;> omega
theorem parts_byte {s : List Int} (h : IsB s) {f : List Int} {ps : List (List Int)} (hp : partsF s = some (f, ps)) : IsB f ∧ ∀ p ∈ ps, IsB p := by
  unfold partsF at hp
  rcases fields_cases s with hf | ⟨x, qs, hf, _, hq⟩
  · rw [hf] at hp; cases hp
  · rw [hf] at hp
    cases x with
    | nil =>
      cases qs with
      | nil => cases hp
      | cons a t =>
        simp only [Option.some.injEq, Prod.mk.injEq] at hp
        obtain ⟨rfl, rfl⟩ := hp
        exact ⟨(hq a (by simp)).2 h, fun p hp => (hq p (by simp [hp])).2 h⟩
    | cons => cases hp
theorem askP_ok (k : Int) (num : Bool) {ps : List (List Int)} (h : ∀ p ∈ ps, IsB p) : (askP k num ps).Ok := by
  have hg : ∀ i : Nat, IsB ((ps[i]?).getD []) := fun i => by
    cases hi : ps[i]? with
    | none => exact IsB.nil
    | some p => exact h p (List.mem_of_getElem? hi)
  unfold askP
  split
  · exact ⟨IsB.nil, IsB.nil, IsB.nil, numAt_i64 _ _, numAt_i64 _ _⟩
  · exact ⟨hg 0, hg 1, IsB.nil, (show i64 0 from ⟨by decide, by decide⟩), (show i64 0 from ⟨by decide, by decide⟩)⟩
theorem zeroA_ok : zeroA.Ok := ⟨IsB.nil, IsB.nil, IsB.nil, ⟨by decide, by decide⟩, ⟨by decide, by decide⟩⟩
theorem parseP_ok {r : ReqP} (h : r.Ok) : (parseP r).1.Ok ∧ (parseP r).1.body.length ≤ r.body.length := by
  unfold parseP
  cases hT : parseT r.target with
  | none => exact ⟨zeroA_ok, Nat.zero_le _⟩
  | some x =>
    obtain ⟨q, m⟩ := x
    have hq : q.Ok ∧ q.body = [] := by
      refine ⟨?_, (parseT_some hT).2⟩
      unfold parseT at hT
      cases hp : partsF r.target with
      | none => rw [hp] at hT; cases hT
      | some x =>
        obtain ⟨f, ps⟩ := x
        rw [hp] at hT
        simp only at hT
        cases hk : pickP f ps with
        | none => rw [hk] at hT; cases hT
        | some g =>
          rw [hk] at hT
          simp only at hT
          split at hT
          · simp only [Option.some.injEq, Prod.mk.injEq] at hT
            obtain ⟨rfl, rfl⟩ := hT
            exact askP_ok _ _ (parts_byte h.target hp).2
          · cases hT
    simp only
    split
    · split
      · exact ⟨⟨hq.1.name, hq.1.spec, h.body, hq.1.ka, hq.1.kb⟩, Nat.le_refl _⟩
      · exact ⟨hq.1, by simp only; rw [hq.2]; exact Nat.zero_le _⟩
    · exact ⟨zeroA_ok, Nat.zero_le _⟩
theorem info_byteR : (Try.prog.info? 5).map (·.size) = some 1 := by kernel_rfl
theorem byte_in {w : World} {v : Value} {l : List Int} (h : Has w (.slice (.int .u8)) [v] l) : IsB l := by
  obtain ⟨A, c, _, _, _, _, h5⟩ := h
  intro x hx
  obtain ⟨i, hi, rfl⟩ := List.getElem_of_mem hx
  obtain ⟨a, es, _, _, _, h6⟩ := h5 i l[i] (List.getElem?_eq_getElem hi)
  have := h6.2
  simp [Lit.wf, IntKind.min, IntKind.max, IntKind.signed, IntKind.bits] at this
  omega
set_option maxHeartbeats 6400000 in
set_option maxRecDepth 100000 in
theorem parses_in (W : World) (r : ReqP) (hr : r.Ok) (v : Value) (h1 : Rd W (fun k => k < W.heap.size) v r.body.length (Disk.bytes8 r.body)) : Calls Try.prog 9 #[reqV r v] W (Rets (Yes W)) := by
  obtain ⟨A, c, rfl, _⟩ := h1.slice
  have HR := Lib.hid h1
  have HC := Lib.hid (fun w (hk : Keeps (fun _ => False) W w) => cut13_c (w := w) r (.slice A r.body.length c) (h1.kept hk (fun _ _ h => h)))
  have HC2 := Lib.hid (fun (w : World) (ok : Nat → Prop) u (h : Rd w ok u r.cut.body.length (Disk.bytes8 r.cut.body)) => (by have := cut13_c (w := w) r.cut u h; rwa [ReqP.cut_cut] at this : Calls Try.prog 26 #[reqV r.cut u] w (Rets (ReqPost w r.cut))))
  obtain ⟨l1, l2⟩ := r.cut_len
  have HOk := Lib.hid hr.cut
  have HP := Lib.hid (fun (w : World) (ok : Nat → Prop) u h => parse23_c (w := w) (ok := ok) r.cut HOk.out (by omega) (by omega) u h)
  have HP2 := Lib.hid (fun (w : World) (ok : Nat → Prop) u h => rparse23_c (w := w) (ok := ok) r.cut HOk.out (by omega) (by omega) u h)
  obtain ⟨hqo, hql⟩ := parseP_ok hr.cut
  have HQ := Lib.hid hqo
  have hql : (parseP r.cut).1.body.length ≤ 2100 := by omega
  unfold reqV at HC ⊢
  clear h1 hr hqo
  generalize parseP r.cut = qc at *
  obtain ⟨q, code⟩ := qc
  generalize r.cut = R at *
  simp only at hql HQ
  go_enter Try.func9, Try.ntmps9
  have hcc : (code != code) = false := by simp
  go_wp2_with (first
    | (go_at_call 29; go_loud (refine Rets.use (same23_self q HQ.out (.slice A6 q.body.length c6) (.slice A9 q.body.length c9) (hO6k.rd.kept hk9 (fun _ _ h => h) |>.kept hk10 (fun _ _ h => h) |>.kept hk11 (fun k h h' => by have := hk9.size; omega)) (hO9.rd.lt.kept hk10 (fun _ _ h => h) |>.kept hk11 (fun k h h' => by have := h.2; omega)) (by omega)) ?_); rintro _ w12 ⟨rfl, hk12⟩)
    | ((with_reducible refine at_ 24 rfl ?_); go_must (refine step_load rfl _ _ rfl w9.heap.size 0 (askC q (.slice A9 q.body.length c9)) _ _ (0, 0) _ rfl hb11 rfl Try.underlying58 rfl (info_askC _ _) ?_))
    | ((with_reducible refine at_ 23 rfl ?_); go_must (refine step_load rfl _ _ rfl w6.heap.size 0 (askC q (.slice A6 q.body.length c6)) _ _ (0, 0) _ rfl (hk11.heap (hk10.heap (hk9.heap hb8 (fun h => h)) (fun h => h)) (fun h => by have := lt_of (hk9.heap hb8 (fun h => h)); omega)) rfl Try.underlying58 rfl (info_askC _ _) ?_))
    | ((with_reducible refine at_store 58 (.tmp 6) (.tmp 21) rfl ?_); go_must (refine step_store rfl _ _ _ rfl w9.heap.size 0 (askC q (.slice A9 q.body.length c9)) _ _ rfl rfl hb10 (by simp [askC_len]) (info_askC _ _) (by simp [askC, Value.oneCell']) ?_); intro w11 hb11 hk11 hs11; rw [put_whole (by rfl)] at hb11)
    | ((with_reducible refine at_ 6 rfl ?_); go_must (refine step_alloc rfl _ rfl _ (askC zeroA (.slice none 0 0)) row_ask rfl ?_); intro w10 hb10 hk10 hs10)
    | (go_at_call 28; go_loud (refine Rets.use (HP2.out w8 _ _ (hR1.kept hk3 (fun _ _ h => h) |>.kept hk4 (fun _ _ h => h) |>.kept hk5 (fun k h h' => by omega) |>.kept hk6 (fun _ _ h => h) |>.kept hk7 (fun _ _ h => h) |>.kept hk8 (fun k h h' => by have := hk6.size; omega))) ?_); rintro _ w9 ⟨hk9, u9, rfl, hO9⟩; obtain ⟨A9, c9, rfl, _⟩ := hO9.slice; have z9 := hk9.size)
    | ((with_reducible refine at_ 19 rfl ?_); go_must (refine step_load rfl _ _ rfl W.heap.size 0 (reqC R (.slice A1 R.body.length c1)) _ _ (0, 0) _ rfl (hk8.heap (hk7.heap (hk6.heap (hk5.heap (hk4.heap (hk3.heap hb2 (fun h => h)) (fun h => h)) (fun h => by have := lt_of hb2; omega)) (fun h => h)) (fun h => h)) (fun h => by have := lt_of hb2; have := hk6.size; omega)) rfl Try.underlying55 rfl (info_reqC _ _) ?_))
    | ((with_reducible refine at_store 58 (.tmp 4) (.tmp 16) rfl ?_); go_must (refine step_store rfl _ _ _ rfl w6.heap.size 0 (askC q (.slice A6 q.body.length c6)) _ _ rfl rfl hb7 (by simp [askC_len]) (info_askC _ _) (by simp [askC, Value.oneCell']) ?_); intro w8 hb8 hk8 hs8; rw [put_whole (by rfl)] at hb8; have hO6k := (hO6.kept hk7 (fun _ _ h => h)).kept hk8 (fun k h h' => by omega))
    | ((with_reducible refine at_ 4 rfl ?_); go_must (refine step_alloc rfl _ rfl _ (askC zeroA (.slice none 0 0)) row_ask rfl ?_); intro w7 hb7 hk7 hs7)
    | (go_at_call 27; go_loud (refine Rets.use (HP.out w5 _ _ (hR3.kept hk4 (fun _ _ h => h) |>.kept hk5 (fun k h h' => by omega))) ?_); rintro _ w6 ⟨hk6, u6, rfl, hO6⟩; obtain ⟨A6, c6, rfl, _⟩ := hO6.slice; have hO6 := hO6.mono (ok' := fun k => w5.heap.size ≤ k ∧ k < w6.heap.size) (fun k hk h => ⟨h, hk⟩); have z6 := hk6.size)
    | ((with_reducible refine at_ 14 rfl ?_); go_must (refine step_load rfl _ _ rfl w3.heap.size 0 (reqC R (.slice A3 R.body.length c3)) _ _ (0, 0) _ rfl hb5 rfl Try.underlying55 rfl (info_reqC _ _) ?_))
    | ((with_reducible refine at_store 55 (.tmp 3) (.tmp 12) rfl ?_); go_must (refine step_store rfl _ _ _ rfl w3.heap.size 0 (reqC R (.slice A3 R.body.length c3)) _ _ rfl rfl hb4 (by simp [reqC]) (info_reqC _ _) (by simp [reqC, Value.oneCell']) ?_); intro w5 hb5 hk5 hs5; rw [put_whole (by rfl)] at hb5)
    | ((with_reducible refine at_ 3 rfl ?_); go_must (refine step_alloc rfl _ rfl _ [.string ⟨#[]⟩, .string ⟨#[]⟩, .string ⟨#[]⟩, .slice none 0 0] row_req rfl ?_); intro w4 hb4 hk4 hs4)
    | (go_at_call 26; (have hz := hb2; clear hz); go_loud (refine Rets.use (HC2.out w2 _ _ hR1) ?_); rintro _ w3 ⟨hk3, u3, rfl, hO3⟩; obtain ⟨A3, c3, rfl, _⟩ := hO3.slice; have hR3 := hO3.rd.lt; have z3 := hk3.size)
    | ((with_reducible refine at_ 11 rfl ?_); go_must (refine step_load rfl _ _ rfl W.heap.size 0 (reqC R (.slice A1 R.body.length c1)) _ _ (0, 0) _ rfl hb2 rfl Try.underlying55 rfl (info_reqC _ _) ?_))
    | ((with_reducible refine at_store 55 (.tmp 1) (.tmp 10) rfl ?_); go_must (refine step_store rfl _ _ _ rfl W.heap.size 0 (reqC R (.slice A1 R.body.length c1)) _ _ rfl rfl hb1 (by simp [reqC]) (info_reqC _ _) (by simp [reqC, Value.oneCell']) ?_); intro w2 hb2 hk2 hs2; rw [put_whole (by rfl)] at hb2; have hR1 := ((hO1.rd.kept hk2 (fun k h h' => by omega)).lt).mono (ok' := fun k => W.heap.size + 1 ≤ k ∧ k < w2.heap.size) (fun _ h => h))
    | (go_at_call 26; go_loud (refine Rets.use (HC.out _ ((Keeps.refl _ W).alloc _)) ?_); rintro _ w1 ⟨hk1, u1, rfl, hO1⟩; obtain ⟨A1, c1, rfl, _⟩ := hO1.slice; obtain ⟨hb1, hk1, hs1⟩ := after1 hk1; have hO1 := hO1.mono (ok' := fun k => W.heap.size + 1 ≤ k) (fun k _ h => by simpa using h)))
  have hl8 := lt_of hb8
  have HOb := Lib.hid ((((hO6k.kept hk9 (fun _ _ h => h)).kept hk10 (fun _ _ h => h)).kept hk11 (fun k h h' => by have := h.2; omega)).kept hk12 (fun _ _ h => h))
  have KB0 := ((((((((hk3.trans hk4 (fun _ _ h => h)).mono (S' := fun k => w3.heap.size ≤ k) (fun _ _ h => h.elim)).trans hk5 (fun k hk h => by omega)).trans hk6 (fun _ _ h => h.elim)).trans hk7 (fun _ _ h => h.elim)).trans hk8 (fun k hk h => by omega)).trans hk9 (fun _ _ h => h.elim)).trans hk10 (fun _ _ h => h.elim)).trans hk11 (fun k hk h => by omega)
  have KB0 := KB0.trans hk12 (fun _ _ h => h.elim)
  have hl2 := lt_of hb2
  have HB0 := Lib.hid (KB0.heap hb2 (fun h => by omega))
  have HR1 := Lib.hid (hR1.kept KB0 (fun k h h' => by omega))
  have KB5 := (((((hk6.trans hk7 (fun _ _ h => h)).mono (S' := fun k => w6.heap.size ≤ k) (fun _ _ h => h.elim)).trans hk8 (fun k hk h => by omega)).trans hk9 (fun _ _ h => h.elim)).trans hk10 (fun _ _ h => h.elim)).trans hk11 (fun k hk h => by omega)
  have KB5 := KB5.trans hk12 (fun _ _ h => h.elim)
  have hl5 := lt_of hb5
  have HB1 := Lib.hid (KB5.heap hb5 (fun h => by omega))
  have HR3 := Lib.hid ((((hR3.kept hk4 (fun _ _ h => h)).kept hk5 (fun k h h' => by have := h.2; omega)).kept KB5 (fun k h h' => by have := h.2; omega)).mono (ok' := fun k => k < w3.heap.size) (fun k h => h.2))
  have HB2 := Lib.hid (hk12.heap (hk11.heap (hk10.heap (hk9.heap hb8 (fun h => h)) (fun h => h)) (fun h => by omega)) (fun h => h))
  have HKW := Lib.hid ((hk1.trans hk2 (fun k hk h => by omega)).trans KB0 (fun k hk h => by omega))
  have hz12 : w9.heap.size ≤ w12.heap.size := by have := hk10.size; have := hk11.size; have := hk12.size; omega
  have hz36 : w3.heap.size < w5.heap.size ∧ w5.heap.size ≤ w6.heap.size ∧ w6.heap.size < w9.heap.size ∧ W.heap.size < w3.heap.size := by omega
  generalize w3.heap.size = B1 at *
  generalize w6.heap.size = B2 at *
  generalize w5.heap.size = B5 at *
  clear KB0 KB5 hk1 hk2 hk3 hk4 hk5 hk6 hk7 hk8 hk9 hk10 hk11 hk12 hb1 hb2 hb4 hb5 hb7 hb8 hb10 hb11 hO1 hO3 hO6 hO6k hO9 hR1 hR3 hl8 hl2 hl5
  have H0B : W.heap.size < B5 := by omega
  have H1B : B1 < B5 := hz36.1
  have H2B : B2 < w9.heap.size := hz36.2.2.1
  clear hs1 hs2 hs4 hs5 hs7 hs8 hs10 hs11 hz36 hz12
  generalize q.body.length = n at *
  generalize hbs : Disk.bytes8 q.body = bs at *
  have hy0 : ∀ j, j < n → ∃ y, bs[j]? = some (Value.int .u8 y) := by
    intro j hj
    have hl : bs.length = n := by have := HOb.out.len; rwa [Nat.mul_one] at this
    subst hbs
    have hj2 : j < q.body.length := by rw [Disk.bytes8_len] at hl; omega
    exact ⟨q.body[j], by simp [Disk.bytes8, hj2]⟩
  have HY0 := Lib.hid hy0
  clear hbs hy0
  go_loopw [8] (fun i wr => ∃ (k : Nat) (cs : List Value), k ≤ n ∧ i = .int .i64 k ∧ OwnRow wr (fun k => B5 ≤ k ∧ k < B2) 5 1 (.slice A6 n c6) n cs ∧ Hid (∀ j, j < n → ∃ y, cs[j]? = some (Value.int .u8 y)) ∧ Keeps (fun k => B5 ≤ k ∧ k < B2) w12 wr) (fun i _ => n - (intOf i).toNat)
  case atStart => exact ⟨0, bs, Nat.zero_le _, rfl, HOb.out, HY0, Keeps.refl _ _⟩
  case round =>
    obtain ⟨k, cs, hk, rfl, hO, HY, hkr⟩ := hrel
    have HO := Lib.hid hO
    have HKr := Lib.hid hkr
    have HB2r := Lib.hid (hkr.heap HB2.out (fun h => by omega))
    have cA : wr.cell? ⟨B2, 3, none⟩ = some (.slice A6 n c6) := (cell_of_row wr _ 3 _ _ _ HB2r.out).trans rfl
    by_cases hlt : k < n
    · obtain ⟨g, cap, cur, e1, hg, _⟩ := hO.form (by omega)
      cases e1
      obtain ⟨y, hy⟩ := HY.out k hlt
      have ck : wr.cell? ⟨g, k, none⟩ = some (.int .u8 y) := HO.out.cells rfl k _ hy
      have hng : n ≤ c6 := by obtain ⟨_, _, e, h, _⟩ := hO.slice; cases e; exact h
      clear hO hkr hy
      go_wp2
      refine Canon.row [0, 2, 3, 5, 1, 4, 6, 7, 8, 9, 10] (by kernel_rfl) (by kernel_rfl) (by repeat (first | (with_reducible exact Safe.body) | (with_reducible apply Safe.then) | (with_reducible apply Safe.inBlock) | (dsimp +zetaDelta only))) ?_
      simp only [Canon.pick, Canon.wpPlan, List.getElem?_toArray, List.getElem?_cons_zero, List.getElem?_cons_succ]
      have KD : Keeps (fun _ => False) wr wr.drew := (Keeps.refl _ wr).drew
      have HO := Lib.hid (HO.out.kept KD (fun _ _ h => h))
      have HKr := Lib.hid (HKr.out.trans KD (fun _ _ h => h.elim))
      have cA := KD.cell cA (fun h => h)
      have ck := KD.cell ck (fun h => h)
      clear KD
      generalize wr.drew = wd at *
      go_wp2_with ((with_reducible refine at_store 5 (.tmp 48) (.tmp 47) rfl ?_); go_must (refine step_set rfl _ _ _ rfl 5 g k n _ (.int .u8 _) cs rfl rfl rfl HO.out hlt info_byteR ?_); intro w6 hO6 hk6 hs6)
      refine ⟨by rfl, trivial, ?_⟩
      go_wp2
      go_roundw
      case rel =>
        refine ⟨k + 1, _, by omega, by go_num, hO6, Lib.hid (fun j hj => ?_), HKr.out.trans hk6 (fun k' _ h => by subst h; exact hg)⟩
        by_cases hjk : k = j
        · subst hjk
          have hl : cs.length = n := by have := HO.out.len; rwa [Nat.mul_one] at this
          exact ⟨_, by rw [List.getElem?_set, if_pos rfl, if_pos (by omega)]⟩
        · obtain ⟨y2, hy2⟩ := HY.out j hj
          exact ⟨y2, by rw [List.getElem?_set, if_neg hjk]; exact hy2⟩
      case measure => simp [intOf]; omega
    · have HB1r := Lib.hid (hkr.heap HB1.out (fun h => by omega))
      have HB0r := Lib.hid (hkr.heap HB0.out (fun h => by omega))
      have HR1r := Lib.hid (HR1.out.kept hkr (fun k h h' => by omega))
      have HR3r := Lib.hid (HR3.out.kept hkr (fun k h h' => by omega))
      have HKz := Lib.hid (HKW.out.trans hkr (fun k hk h => by omega))
      clear hO hkr
      go_wp2_with (first
        | (go_at_call 31; go_loud (refine Rets.use (lives23_c _) ?_); rintro v14 w14 ⟨rfl, hk14⟩)
        | (go_at_call 30; go_loud (refine Rets.use (same13_self R HOk.out (.slice A3 R.body.length c3) (.slice A1 R.body.length c1) HR3r.out HR1r.out (by omega)) ?_); rintro _ w13 ⟨rfl, hk13⟩)
        | ((with_reducible refine at_ 50 rfl ?_); go_must (refine step_load rfl _ _ rfl W.heap.size 0 (reqC R (.slice A1 R.body.length c1)) _ _ (0, 0) _ rfl HB0r.out rfl Try.underlying55 rfl (info_reqC _ _) ?_))
        | ((with_reducible refine at_ 49 rfl ?_); go_must (refine step_load rfl _ _ rfl B1 0 (reqC R (.slice A3 R.body.length c3)) _ _ (0, 0) _ rfl HB1r.out rfl Try.underlying55 rfl (info_reqC _ _) ?_)))
      go_ret
      exact ⟨rfl, (HKz.out.trans hk13 (fun _ _ h => h)).trans hk14 (fun _ _ h => h)⟩
theorem KReq_of {W : World} {cs : List Value} {x : ByteArray × ByteArray × ByteArray × List Int × Unit} (H : Has W (.st (.fld .str (.fld .str (.fld .str (.fld (.slice (.int .u8)) .fin))))) cs x) : ∃ (r : ReqP) (v : Value), cs = reqC r v ∧ r.Ok ∧ Rd W (fun k => k < W.heap.size) v r.body.length (Disk.bytes8 r.body) := by
  obtain ⟨s1, s2, s3, l, u⟩ := x
  obtain ⟨c1, r1, rfl, _, ⟨rfl, _⟩, c2, r2, rfl, _, ⟨rfl, _⟩, c3, r3, rfl, _, ⟨rfl, _⟩, c4, r4, rfl, h4, hb, rfl⟩ := H
  obtain ⟨v, rfl⟩ : ∃ v, c4 = [v] := by
    cases c4 with
    | nil => cases h4
    | cons v t => cases t with
      | nil => exact ⟨v, rfl⟩
      | cons => cases h4
  refine ⟨⟨bytesOf s1, bytesOf s2, bytesOf s3, l⟩, v, ?_, ⟨bytesOf_byte _, bytesOf_byte _, bytesOf_byte _, byte_in hb⟩, Has.bytes hb |>.1⟩
  unfold reqC
  simp only [← str_of]
  rfl
theorem routeParses_walk (W : World) (cs0 : Array Value) (x0 : ByteArray × ByteArray × ByteArray × List Int × Unit) (H0 : Has W (.st (.fld .str (.fld .str (.fld .str (.fld (.slice (.int .u8)) .fin))))) cs0.toList x0) :
    Calls Try.prog 9 #[.agg cs0] W (Rets (Yes W)) := by
  obtain ⟨r, v, e, hr, h⟩ := KReq_of H0
  have e2 : cs0 = (reqC r v).toArray := by rw [← e]
  subst e2
  exact parses_in W r hr v h
end Go.Proofs.Ytomnkdjlljobeaa
