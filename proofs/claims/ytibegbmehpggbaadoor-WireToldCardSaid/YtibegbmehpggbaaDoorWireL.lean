/-
  The walks of package wire: Whole.
-/
import Derived.Test.YtibegbmehpggbaaDoorWireK
import Derived.Test.YtibegbmehpggbaaDoorWireO
namespace Go.Proofs.YtibegbmehpggbaaDoor
open Go.RowKit Go.Canon Go.Mem
set_option linter.unusedVariables false
set_option linter.unusedSimpArgs false
theorem putW_c {w : World} {S : Nat → Prop} {g : Nat} {s : Wire.S} (h : WIs w S g s) {n : Nat} (hg : WGood s n) (hn : n ≤ 900000) (x : Int) (h0 : 0 ≤ x ∧ x ≤ 255) : Calls Tryd.prog 27 #[.pointer (some ⟨g, 0, none⟩), .int .u8 x] w (Rets (WStep w S g (.tuple #[.bool (Wire.put s x).1.1, .int .i64 (Wire.put s x).1.2]) (Wire.put s x).2)) := by
  cases hb : s.bad with
  | true => exact putW_no h (.inl hb) x
  | false =>
    cases hw : s.whole with
    | true => exact putW_no h (.inr hw) x
    | false =>
      have h1 := hg.lines
      have h2 := hg.line
      have h3 := hg.head
      have h4 := hg.bl
      cases hi : s.inB with
      | false => exact putW_head h ⟨by omega, by omega, hg.byte⟩ hb hw hi x h0
      | true => exact putW_body h (n := n) (by omega) (fun hc => ⟨hg.on hc hi hw, hg.left.2⟩) (fun c hc => (hg.ch c hc).1) (by omega) hb hw hi x h0
theorem go_cons (r : Wire.S) (b : Int) (l : List Int) (i : Int) : Wire.go r (b :: l) i = if (Wire.put r b).1.2 ≠ 0 then (Wire.zeroR, 0, (Wire.put r b).1.2) else if (Wire.put r b).1.1 = true then ((Wire.put r b).2.x, i + 1, 0) else Wire.go (Wire.put r b).2 l (i + 1) := by rw [Wire.go]
theorem put_done (r : Wire.S) (b : Int) : (Wire.put r b).1.1 = true → (Wire.put r b).2.whole = true := by
  unfold Wire.put
  split
  · intro h; cases h
  · exact id
theorem put_going {r : Wire.S} {b : Int} (h1 : r.bad = false) (h2 : r.whole = false) : (Wire.put r b).1.2 = 0 → (Wire.put r b).1.1 = false → (Wire.put r b).2.bad = false ∧ (Wire.put r b).2.whole = false := by
  rw [Wire.put_on h1 h2]
  intro h3 h4
  exact ⟨decide_eq_false (by simpa using h3), h4⟩
/-- A request that is read, its body in memory of its own; how many bytes; why there is none. -/
def WholeIs (w : World) (t : ReqP × Int × Int) : Value → World → Prop := fun v w' => Keeps (fun _ => False) w w' ∧ ∃ u, v = .tuple #[reqV t.1 u, .int .i64 t.2.1, .int .i64 t.2.2] ∧ OwnRow w' (fun k => w.heap.size ≤ k) 5 1 u t.1.body.length (Disk.bytes8 t.1.body)
theorem ret_cell_tmp2 {P : Program} {w : World} {fn : Func} {t s u : Tmp} {ty : TypeId} (h : fn.results = #[.cell t ty, .tmp s, .tmp u]) {tmps : Array Value} {b : Nat} (vs : List Value) {te : TypeId} {fr : Nat × Nat} (d : TypeDesc) (hx : tmps.getD t undef = .pointer (some ⟨b, 0, none⟩)) (hb : w.heap[b]? = some (.cells vs.toArray te fr))
    (hu : P.underlying ty = some d) (hd : d.isRow = true) (hi : (P.info? ty).map (·.size) = some vs.length) : (results fn tmps).run P w = .ok (.tuple #[.agg vs.toArray, tmps.getD s undef, tmps.getD u undef]) w := by
  have hx' : tmps[t]?.getD undef = .pointer (some ⟨b, 0, none⟩) := by rw [← Array.getD_eq_getD_getElem?]; exact hx
  simp [results, h, hx', asAddr, run_loadVar_mid w b 0 ty vs d (range_of hb) hu hd hi]
theorem one_byte {w : World} {ok : Nat → Prop} {A : Option Addr} {c : Nat} {l : List Int} (h : Rd w ok (.slice A l.length c) l.length (Disk.bytes8 l)) {k : Nat} (hk : k < l.length) : ∃ b o, A = some ⟨b, o, none⟩ ∧ w.cell? ⟨b, o + k, none⟩ = some (.int .u8 l[k]) := by
  obtain ⟨b, o, c', e, _, _, hc⟩ := h.at (by intro e; have := congrArg List.length e; rw [Disk.bytes8_len, List.length_nil] at this; omega)
  cases e
  exact ⟨b, o, rfl, hc k _ (by simp [Disk.bytes8, hk])⟩
set_option maxHeartbeats 3200000 in
set_option maxRecDepth 100000 in
theorem wholeW_c {ok : Nat → Prop} {w : World} (v : Value) (l : List Int) (hr : Rd w ok v l.length (Disk.bytes8 l)) (hl : l.length ≤ 900000) (hB : IsB l) : Calls Tryd.prog 20 #[v] w (Rets (WholeIs w (Wire.whole l))) := by
  obtain ⟨A, c, rfl, _⟩ := hr.slice
  have HR := Lib.hid hr
  obtain ⟨w1, hw1⟩ : ∃ w1, w1 = w.alloc (.cells #[.string ⟨#[]⟩, .string ⟨#[]⟩, .string ⟨#[]⟩, .slice none 0 0] 44) := ⟨_, rfl⟩
  obtain ⟨hb1, hk1, hs1⟩ := alloc1 hw1
  have HW := Lib.hid hw1
  have HB1 := Lib.hid hb1
  clear hw1 hb1 hr
  go_enter Tryd.func20, Tryd.ntmps20
  go_wp2_with (go_at_call 26; rw [← HW.out]; refine Rets.use (newW_c w1) ?_; rintro v2 w2 ⟨hk2, g, hg, rfl, hW2⟩; have HW2 := Lib.hid hW2; clear hW2)
  go_loopw [6, 7, 8, 9, 10, 11, 15] (fun q0 q1 q2 q3 q4 q5 i wr => ∃ (k : Nat) (s : Wire.S), k ≤ l.length ∧ i = .int .i64 k ∧ Hid (WIs wr (fun q => w1.heap.size ≤ q) g s) ∧ Hid (WGood s k) ∧ Hid (s.bad = false ∧ s.whole = false) ∧ Hid (Wire.go s (l.drop k) k = Wire.whole l) ∧ Hid (Keeps (fun _ => False) w1 wr)) (fun _ _ _ _ _ _ i _ => l.length - (intOf i).toNat)
  case atStart => exact ⟨0, Wire.new, by omega, rfl, HW2, Lib.hid WGood.new, Lib.hid ⟨rfl, rfl⟩, Lib.hid rfl, Lib.hid hk2⟩
  case round =>
    obtain ⟨k, s, hk, rfl, HS, HG, HF, HGo, HK⟩ := hrel
    by_cases hlt : k < l.length
    · obtain ⟨b, o, hA, hx⟩ := one_byte ((HR.out.kept hk1 (fun _ _ h => h)).kept HK.out (fun _ _ h => h)) hlt
      subst hA
      have HD := Lib.hid (drop_one hlt)
      obtain ⟨x0, x1⟩ := hB _ (List.getElem_mem hlt)
      generalize l[k] = x at *
      have hgo := HGo.out
      rw [HD.out, go_cons] at hgo
      have hg2 := HG.out.put (b := x) ⟨x0, x1⟩
      have hdn := put_done s x
      have hgn := put_going (b := x) HF.out.1 HF.out.2
      obtain ⟨p, hp⟩ : ∃ p, Wire.put s x = p := ⟨_, rfl⟩
      rw [hp] at hgo hg2 hdn hgn
      have HP := Lib.hid hp
      clear hp HD HF HGo
      obtain ⟨⟨d, e⟩, s'⟩ := p
      have HG2 := Lib.hid hg2
      clear hg2
      by_cases he : e = 0
      · subst he
        cases d with
        | true =>
          have HT := Lib.hid (show Wire.whole l = (s'.x, (k : Int) + 1, 0) from hgo.symm)
          have hwh : s'.whole = true := hdn rfl
          clear hgo hdn hgn
          go_wp2_with (first
            | (go_at_call 27; refine Rets.use (putW_c HS.out HG.out (by omega) x ⟨x0, by omega⟩) ?_; rw [HP.out]; rintro v3 w3 ⟨rfl, h3, hk3⟩; have HK1 := Lib.hid (show Keeps (fun _ => False) w1 w3 from HK.out.trans (hk3.mono (S' := fun q => w1.heap.size ≤ q) (fun _ _ h => h)) (fun q hq h => absurd hq (Nat.not_lt.2 h))); have HK3 := Lib.hid (show Keeps (fun q => w.heap.size ≤ q) w w3 from (hk1.trans HK1.out (fun _ _ h => h)).mono (fun _ _ h => h.elim)); have HB3 := Lib.hid (HK1.out.heap HB1.out (fun h => h)); have H3 := Lib.hid h3; clear h3)
            | (go_at_call 28; refine Rets.use (takeW_yes H3.out hwh) ?_; rintro v4 w4 ⟨vb, rfl, hO4, _, hk4⟩; have HO4 := Lib.hid hO4; obtain ⟨Av, cv, rfl, _⟩ := hO4.slice; clear hO4)
            | ((with_reducible refine at_store 44 (.tmp 10) (.tmp 34) rfl ?_); go_must (refine step_store rfl _ _ _ rfl w4.heap.size 0 (reqC s'.x (.slice Av s'.x.body.length cv)) zq _ rfl rfl (heap_alloc_new w4 _) (by simp [zq, reqC]) info_req (by simp [reqC, Value.oneCell']) ?_); intro w5 hb5 hk5 hs5; rw [put_whole (by rfl)] at hb5; have hk45 : Keeps (fun k => k = w4.heap.size) w4 w5 := ((Keeps.refl _ w4).alloc _).trans hk5 (fun _ _ h => h); have HB5 := Lib.hid hb5; clear hb5)
            | ((with_reducible refine at_ 36 rfl ?_); go_must (refine step_load rfl _ _ rfl w4.heap.size 0 (reqC s'.x (.slice Av s'.x.body.length cv)) _ _ (0, 0) _ rfl HB5.out rfl Tryd.underlying44 rfl info_req ?_))
            | ((with_reducible refine at_store 44 (.tmp 2) (.tmp 36) rfl ?_); go_must (refine step_store rfl _ _ _ rfl w.heap.size 0 (reqC s'.x (.slice Av s'.x.body.length cv)) _ _ rfl rfl (hk45.heap (hk4.heap HB3.out (fun h => by omega)) (fun h => by have := hk4.size; have := HK1.out.size; omega)) (by simp [reqC]) info_req (by simp [reqC, Value.oneCell']) ?_); intro w6 hb6 hk6 hs6; rw [put_whole (by rfl)] at hb6))
          refine bodyPost_ret (ret_cell_tmp2 rfl (reqC s'.x (.slice Av s'.x.body.length cv)) _ rfl hb6 Tryd.underlying44 rfl info_req) rfl ?_
          have hz3 := HK3.out.size
          have hzr := HK.out.size
          have hz1 := HK1.out.size
          have hz4 := hk4.size
          have hkA : Keeps (fun q => w.heap.size ≤ q) w w6 := ((HK3.out.trans hk4 (fun q _ h => by omega)).trans hk45 (fun q _ h => by omega)).trans hk6 (fun q _ h => by omega)
          refine ⟨hkA.mono (fun q hq h => by omega), .slice Av s'.x.body.length cv, by rw [HT.out]; rfl, ?_⟩
          rw [HT.out]
          exact ((HO4.out.kept hk45 (fun q h h' => by omega)).kept hk6 (fun q h h' => by have := h.1; omega)).mono (fun q _ h => by have := h.1; omega)
        | false =>
          have HGo := Lib.hid (show Wire.go s' (l.drop (k + 1)) ((k + 1 : Nat) : Int) = Wire.whole l from hgo)
          have HF := Lib.hid (hgn rfl rfl)
          clear hgo hdn hgn
          go_wp2_with (go_at_call 27; refine Rets.use (putW_c HS.out HG.out (by omega) x ⟨x0, by omega⟩) ?_; rw [HP.out]; rintro v3 w3 ⟨rfl, h3, hk3⟩; have HK1 := Lib.hid (show Keeps (fun _ => False) w1 w3 from HK.out.trans (hk3.mono (S' := fun q => w1.heap.size ≤ q) (fun _ _ h => h)) (fun q hq h => absurd hq (Nat.not_lt.2 h))); have HK3 := Lib.hid (show Keeps (fun q => w.heap.size ≤ q) w w3 from (hk1.trans HK1.out (fun _ _ h => h)).mono (fun _ _ h => h.elim)); have HB3 := Lib.hid (HK1.out.heap HB1.out (fun h => h)); have H3 := Lib.hid h3; clear h3)
          go_roundw
          case rel => exact ⟨k + 1, s', by omega, by go_num, Lib.hid (H3.out.mono (fun q h => h.elim id (fun h => Nat.le_trans HK.out.size h))), HG2, HF, HGo, Lib.hid (HK1.out)⟩
          case measure => simp [intOf]; omega
      · have HT := Lib.hid (show Wire.whole l = (Wire.zeroR, 0, e) by rw [← hgo]; exact if_pos he)
        have hne : (e != 0) = true := by simpa using he
        clear hgo hdn hgn he
        go_wp2_with (first
          | (go_at_call 27; refine Rets.use (putW_c HS.out HG.out (by omega) x ⟨x0, by omega⟩) ?_; rw [HP.out]; rintro v3 w3 ⟨rfl, h3, hk3⟩; have HK1 := Lib.hid (show Keeps (fun _ => False) w1 w3 from HK.out.trans (hk3.mono (S' := fun q => w1.heap.size ≤ q) (fun _ _ h => h)) (fun q hq h => absurd hq (Nat.not_lt.2 h))); have HK3 := Lib.hid (show Keeps (fun q => w.heap.size ≤ q) w w3 from (hk1.trans HK1.out (fun _ _ h => h)).mono (fun _ _ h => h.elim)); have HB3 := Lib.hid (HK1.out.heap HB1.out (fun h => h)); have H3 := Lib.hid h3; clear h3)
          | ((with_reducible refine at_store 44 (.tmp 2) (.tmp 28) rfl ?_); go_must (refine step_store rfl _ _ _ rfl w.heap.size 0 zq _ _ rfl rfl HB3.out (by simp [zq]) info_req (by simp [zq, Value.oneCell']) ?_); intro w6 hb6 hk6 hs6; rw [put_whole (by rfl)] at hb6))
        refine bodyPost_ret (ret_cell_tmp2 rfl zq _ rfl hb6 Tryd.underlying44 rfl info_req) rfl ?_
        have hkA : Keeps (fun q => w.heap.size ≤ q) w w6 := HK3.out.trans hk6 (fun q _ h => by omega)
        refine ⟨hkA.mono (fun q hq h => by omega), .slice none 0 0, by rw [HT.out]; rfl, ?_⟩
        rw [HT.out]
        exact OwnRow.nil _ _ _ _
    · obtain rfl : k = l.length := by omega
      have hgo := HGo.out
      rw [List.drop_length] at hgo
      have HT := Lib.hid (show Wire.whole l = (Wire.zeroR, 0, 3) from hgo.symm)
      have HBr := Lib.hid (HK.out.heap HB1.out (fun h => h))
      clear hgo
      go_wp2_with ((with_reducible refine at_store 44 (.tmp 2) (.tmp 40) rfl ?_); go_must (refine step_store rfl _ _ _ rfl w.heap.size 0 zq _ _ rfl rfl HBr.out (by simp [zq]) info_req (by simp [zq, Value.oneCell']) ?_); intro w6 hb6 hk6 hs6; rw [put_whole (by rfl)] at hb6)
      refine bodyPost_ret (ret_cell_tmp2 rfl zq _ rfl hb6 Tryd.underlying44 rfl info_req) rfl ?_
      have hkA : Keeps (fun q => w.heap.size ≤ q) w w6 := ((hk1.trans HK.out (fun _ _ h => h)).mono (fun _ _ h => h.elim)).trans hk6 (fun q _ h => by omega)
      refine ⟨hkA.mono (fun q hq h => by omega), .slice none 0 0, by rw [HT.out]; rfl, ?_⟩
      rw [HT.out]
      exact OwnRow.nil _ _ _ _
end Go.Proofs.YtibegbmehpggbaaDoor
