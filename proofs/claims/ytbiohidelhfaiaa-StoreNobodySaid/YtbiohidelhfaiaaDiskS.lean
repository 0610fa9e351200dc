/-
  The walk of Sync.
-/
import Derived.Test.YtbiohidelhfaiaaDiskW
namespace Go.Proofs.Ytbiohidelhfaiaa
open Go.RowKit Go.Canon Go.Mem
set_option linter.unusedVariables false
set_option linter.unusedSimpArgs false
section
variable {w : World} {S : Nat → Prop} {g F N : Nat} {vo : Value} {s : Disk.St}
theorem DParts.kept {S' : Nat → Prop} {w' : World} (h : DParts w S g F N vo s) (hk : Keeps S' w w') (hn : ∀ k, S k → ¬ S' k) : DParts w' S g F N vo s :=
  ⟨hk.heap h.blk (hn _ h.inS.1), hk.heap h.bF (hn _ h.inS.2.1), hk.heap h.bN (hn _ h.inS.2.2), h.own.kept hk (fun k hh => hn k hh.1), h.inS, h.ne, h.ok⟩
/-- One array of sectors is another one now. -/
theorem DParts.setF {w' : World} {f : List (List Int)} (h : DParts w S g F N vo s) (hk : Keeps (· = F) w w') (hb : w'.heap[F]? = some (.cells (Disk.flat f).toArray 117 (0, 0))) (hl : f.length = s.fast.length) (h64 : ∀ x ∈ f, x.length = 64) : DParts w' S g F N vo { s with fast := f } := by
  have q := h.ok
  exact ⟨hk.heap h.blk (fun e => h.ne.1 e.symm), hb, hk.heap h.bN h.ne.2.2, h.own.kept hk (fun k hh => hh.2.2.1), h.inS, h.ne, ⟨hl.trans q.len, q.pos, q.most, h64, q.n64, q.o64, q.left0, q.left1⟩⟩
theorem DParts.setN {w' : World} {f : List (List Int)} (h : DParts w S g F N vo s) (hk : Keeps (· = N) w w') (hb : w'.heap[N]? = some (.cells (Disk.flat f).toArray 117 (0, 0))) (hl : f.length = s.now.length) (h64 : ∀ x ∈ f, x.length = 64) : DParts w' S g F N vo { s with now := f } := by
  have q := h.ok
  exact ⟨by simpa [hl] using hk.heap h.blk (fun e => h.ne.2.1 e.symm), hk.heap h.bF (fun e => h.ne.2.2 e.symm), hb, h.own.kept hk (fun k hh => hh.2.2.2), h.inS, h.ne, ⟨q.len.trans hl.symm, by simpa [hl] using q.pos, by simpa [hl] using q.most, q.f64, h64, fun p hp => by simpa [hl] using q.o64 p hp, q.left0, q.left1⟩⟩
def SyncPost (w : World) (S : Nat → Prop) (g F N : Nat) (s : Disk.St) (v : Value) (w' : World) : Prop :=
  v = .int .i64 s.sync.1 ∧ (∃ vo', DParts w' S g F N vo' s.sync.2) ∧ Keeps S w w'
/-- Behind j of the writes that were open. -/
def SyncAt (w : World) (S : Nat → Prop) (g F N : Nat) (vo : Value) (s : Disk.St) (j : Nat) (w' : World) : Prop :=
  DParts w' S g F N vo { s with fast := Disk.St.settle s.now s.fast (s.opn.take j) } ∧ Keeps S w w'
theorem SyncAt.next {W w1 w2 w3 : World} {j : Nat} {a : Nat} {b x : List Int} (h : SyncAt W S g F N vo s j w1) (hj : s.opn[j]? = some ((a : Int), b)) (hx : s.now[a]? = some x)
    (hk : Keeps (fun _ => False) w1 w2) (hk3 : Keeps (· = F) w2 w3) (hb : w3.heap[F]? = some (.cells (put (Disk.flat (Disk.St.settle s.now s.fast (s.opn.take j))) (a * 64) (Disk.bytes8 x)).toArray 117 (0, 0))) : SyncAt W S g F N vo s (j + 1) w3 := by
  obtain ⟨hp, hK⟩ := h
  have q := hp.ok
  have hin := fun p hp => (q.o64 p hp)
  have hmem : ((a : Int), b) ∈ s.opn := List.mem_of_getElem? hj
  have ha : a < s.now.length := (List.getElem?_eq_some_iff.1 hx).1
  have e : Disk.St.settle s.now s.fast (s.opn.take (j + 1)) = (Disk.St.settle s.now s.fast (s.opn.take j)).set a x := by
    rw [List.take_add_one, hj, Option.toList_some, Disk.settle_snoc, Int.toNat_natCast, Disk.getD_of ha]
    rw [List.getElem?_eq_getElem ha] at hx
    cases hx
    rfl
  have hlen : (Disk.St.settle s.now s.fast (s.opn.take j)).length = s.now.length := q.len
  have h64 := q.f64
  have hx64 : x.length = 64 := q.n64 x (List.mem_of_getElem? hx)
  rw [Disk.flat_set h64 a x (by rw [hlen]; exact ha) hx64] at hb
  refine ⟨?_, (hK.trans hk (fun _ _ h => h.elim)).trans hk3 (fun k _ e => by subst e; exact hp.inS.2.1)⟩
  rw [e]
  refine DParts.setF (s := { s with fast := Disk.St.settle s.now s.fast (s.opn.take j) }) (hp.kept hk (fun _ _ h => h)) hk3 hb ?_ ?_
  · rw [List.length_set]
  · intro y hy
    rcases List.mem_or_eq_of_mem_set hy with hy | rfl
    · exact h64 y hy
    · exact hx64
set_option maxHeartbeats 800000 in
set_option maxRecDepth 100000 in
theorem sync_c (h : DParts w S g F N vo s) (few : s.opn.length ≤ 1000000) : Calls Try.prog 86 #[.pointer (some ⟨g, 0, none⟩)] w (Rets (SyncPost w S g F N s)) := by
  have hm := h.ok.most
  obtain ⟨t1, t2, t3⟩ := step_same s
  cases ho : s.off
  · have HR := Lib.hid (show (if s.off = true then 14 else 0) = (0 : Int) by simp [ho])
    have HO := Lib.hid ho
    clear ho
    cases hs : s.step.1
    · have HS := Lib.hid (show (if s.step.1 = true then 0 else 14) = (14 : Int) by simp [hs])
      have HE := Lib.hid (show s.sync = (14, s.step.2) by unfold Disk.St.sync; rw [if_neg (by simp [HO.out]), if_neg (by simp [hs])])
      clear hs t1 t2 t3
      go_enter Try.func86, Try.ntmps86
      go_wp2_with (first
        | (go_at_call 61; refine Rets.use (ready_c h) ?_; rw [HR.out]; rintro v w' ⟨rfl, rfl⟩)
        | (go_at_call 100; refine Rets.use (step_c h) ?_; rintro v w' ⟨rfl, hp, hk⟩; rw [HS.out]))
      go_ret
      exact ⟨by rw [HE.out]; rfl, ⟨vo, by rw [HE.out]; exact hp⟩, hk.mono (fun k _ e => by subst e; exact h.inS.1)⟩
    · have HS := Lib.hid (show (if s.step.1 = true then 0 else 14) = (0 : Int) by simp [hs])
      have HE := Lib.hid (show s.sync = (0, { s.step.2 with fast := Disk.St.settle s.now s.fast s.opn, opn := [] }) by unfold Disk.St.sync; rw [if_neg (by simp [HO.out]), if_pos hs])
      have T1 := Lib.hid t1
      have T2 := Lib.hid t2
      have T3 := Lib.hid t3
      clear hs t1 t2 t3
      obtain ⟨A, c, hv, hc, _, hA⟩ := h.own.slice
      go_enter Try.func86, Try.ntmps86
      go_wp2_with (first
        | (go_at_call 61; refine Rets.use (ready_c h) ?_; rw [HR.out]; rintro v w' ⟨rfl, rfl⟩)
        | (go_at_call 100; refine Rets.use (step_c h) ?_; rintro v w1 ⟨rfl, hp1, hk1⟩; rw [HS.out]; have hK1 := hk1.mono (S' := S) (fun k _ e => by rw [e]; exact h.inS.1); generalize hT : s.step.2 = t at *; have c2 := hp1.cell 2 _ rfl; rw [hv] at c2))
      have HV := Lib.hid hv
      have HT := Lib.hid hT
      clear hv hT c2
      have hOA : s.opn.length = 0 ∨ ∃ O, A = some ⟨O, 0, none⟩ := by
        rcases Nat.eq_zero_or_pos s.opn.length with h0 | h0
        · exact .inl h0
        · obtain ⟨O, cap, cur, e, _⟩ := h.own.form h0
          rw [HV.out] at e
          cases e
          exact .inr ⟨O, rfl⟩
      have HOA := Lib.hid hOA
      clear hOA
      have hin := hp1.ok.o64
      have HIn := Lib.hid hin
      clear hin
      go_loopw [22] (fun i wr => ∃ j : Nat, j ≤ s.opn.length ∧ i = .int .i64 j ∧ SyncAt w1 S g F N vo t j wr) (fun i _ => s.opn.length - (intOf i).toNat)
      case atStart =>
        refine ⟨0, Nat.zero_le _, rfl, ?_, Keeps.refl _ w1⟩
        simpa [Disk.St.settle] using hp1
      case round =>
        obtain ⟨j, hj, rfl, hat⟩ := hrel
        have HAt := Lib.hid hat
        by_cases hlt : j < s.opn.length
        · obtain ⟨O, rfl⟩ : ∃ O, A = some ⟨O, 0, none⟩ := HOA.out.resolve_left (by omega)
          have hlt' : j < t.opn.length := by rw [T3.out]; exact hlt
          obtain ⟨⟨pa, pb⟩, hp⟩ : ∃ p, t.opn[j]? = some p := ⟨_, List.getElem?_eq_getElem hlt'⟩
          obtain ⟨q1, q2, q3⟩ := HIn.out _ (List.mem_of_getElem? hp)
          simp only at q1 q2 q3
          obtain ⟨a, rfl⟩ : ∃ a : Nat, pa = a := ⟨pa.toNat, by omega⟩
          have ha : a < t.now.length := by omega
          have hx : t.now[a]? = some t.now[a] := List.getElem?_eq_getElem ha
          have hx64 : t.now[a].length = 64 := hp1.ok.n64 _ (List.getElem_mem ha)
          have own := hat.1.own
          rw [HV.out] at own
          have hoc := Disk.opens_cells (l := t.opn) (n := s.opn.length) own (fun p hp => (HIn.out p hp).1) hp
          have HOc := Lib.hid hoc
          have HHp := Lib.hid hp
          have HHx := Lib.hid hx
          have HX64 := Lib.hid (show (Disk.bytes8 t.now[a]).length = 64 by rw [Disk.bytes8_len]; exact hx64)
          have HB64 := Lib.hid (show (Disk.bytes8 pb).length = 64 by rw [Disk.bytes8_len]; exact q1)
          have HZ := Lib.hid (show (Disk.bytes8 Disk.zsec).length = 64 by rw [Disk.bytes8_len, Disk.zsec_len])
          have HOne := Lib.hid (all_oneCell_toArray (cs := .int .i64 (a : Int) :: Disk.bytes8 pb) (by intro v hv; rcases List.mem_cons.1 hv with rfl | hv; rfl; exact Disk.bytes8_one _ v hv))
          have HOnx := Lib.hid (all_oneCell_toArray (Disk.bytes8_one t.now[a]))
          have HXat := Lib.hid (Disk.flat_at hp1.ok.n64 a _ hx)
          have HFl := Lib.hid (show (Disk.flat (Disk.St.settle t.now t.fast (t.opn.take j))).length = t.now.length * 64 by rw [Disk.flat_len hat.1.ok.f64, hat.1.ok.len])
          have nmax : t.now.length ≤ 4096 := hat.1.ok.most
          have c0 := (hat.1.cell 0 _ rfl)
          have c1 := (hat.1.cell 1 _ rfl)
          have bN := hat.1.bN
          have bF := hat.1.bF
          have lg := lt_of hat.1.blk
          have lN := lt_of bN
          have lF := lt_of bF
          clear hat own hp hx hoc hx64 q1
          go_wp2_with (first
            | ((with_reducible refine at_ 25 rfl ?_); go_must (refine step_load_cells rfl 119 _ rfl O (j * 65) (.int .i64 a :: Disk.bytes8 pb) _ rfl HOc.out Try.underlying119 rfl (by rw [List.length_cons, HB64.out]; exact info_wr) ?_))
            | ((with_reducible refine at_ 6 rfl ?_); go_must (refine step_alloc rfl 119 rfl _ _ zero_wr rfl ?_); intro w2 hb2 hk2 hs2)
            | ((with_reducible refine at_store 119 (.tmp 6) (.tmp 25) rfl ?_); go_must (refine step_store rfl _ _ _ rfl wr.heap.size 0 (.int .i64 a :: Disk.bytes8 pb) _ _ rfl rfl hb2 (by rw [List.length_cons, List.length_cons, HB64.out, HZ.out]; omega) (by rw [List.length_cons, HB64.out]; exact info_wr) HOne.out ?_); intro w3 hb3 hk3 hs3; rw [put_whole (by rw [List.length_cons, List.length_cons, HB64.out, HZ.out])] at hb3; clear hb2))
          refine Canon.row [0, 1, 2, 4, 6, 7, 8, 10, 3, 5, 9, 11, 12, 13, 14, 15] (by kernel_rfl) (by kernel_rfl) (by repeat (first | (with_reducible exact Safe.body) | (with_reducible apply Safe.then) | (with_reducible apply Safe.inBlock) | (dsimp +zetaDelta only))) ?_
          simp only [Canon.pick, Canon.wpPlan, List.getElem?_toArray, List.getElem?_cons_zero, List.getElem?_cons_succ]
          have K3 : Keeps (· = wr.heap.size) wr w3.drew := ((hk2.mono (fun _ _ h => h.elim)).trans hk3 (fun _ _ h => h)).drew
          have c0' := K3.cell c0 (Nat.ne_of_lt lg)
          have c1' := K3.cell c1 (Nat.ne_of_lt lg)
          have bN' := K3.heap bN (Nat.ne_of_lt lN)
          have bF' := K3.heap bF (Nat.ne_of_lt lF)
          have cW : w3.drew.cell? ⟨wr.heap.size, 0, none⟩ = some (.int .i64 a) := (cell_of_row w3.drew wr.heap.size 0 _ _ _ hb3).trans rfl
          clear c0 c1 bN bF hb3 hk3 hk2
          generalize w3.drew = w4 at *
          go_wp2_with (first
            | ((with_reducible refine at_ 39 rfl ?_); go_must (refine step_load rfl 117 _ rfl N (a * 64) (Disk.bytes8 t.now[a]) _ _ _ _ rfl bN' (by rw [HX64.out]; exact HXat.out) Try.underlying117 rfl (by rw [HX64.out]; exact info_sec) ?_))
            | ((with_reducible refine at_store 117 (.tmp 40) (.tmp 39) rfl ?_); go_must (refine step_store rfl _ _ _ rfl F (a * 64) (Disk.bytes8 t.now[a]) _ _ rfl rfl bF' (by rw [HX64.out, HFl.out]; omega) (by rw [HX64.out]; exact info_sec) HOnx.out ?_); intro w5 bF5 hk5 hs5))
          refine ⟨by rfl, trivial, ?_⟩
          go_wp2
          go_roundw
          case rel =>
            refine ⟨j + 1, by omega, by go_num, ?_⟩
            exact HAt.out.next HHp.out HHx.out (K3.mono (fun _ h e => by omega)) hk5 bF5
          case measure => simp [intOf]; omega
        · have e : j = s.opn.length := by omega
          subst e
          clear hlt
          have b0 := hat.1.blk
          clear hat
          go_wp2_with ((with_reducible refine at_store 98 (.tmp 44) (.const (.slice none 0 0)) rfl ?_); go_must (refine step_store1 rfl _ _ _ rfl g 2 (.slice none 0 0) _ _ rfl rfl rfl b0 (by simp) info_wrs ?_); intro w2 b2 hk2 hs2)
          go_ret
          have hp := HAt.out.1
          have e : t.opn.take s.opn.length = s.opn := by rw [T3.out, List.take_length]
          have q := hp.ok
          refine ⟨by rw [HE.out]; rfl, ⟨.slice none 0 0, ?_⟩, (hK1.trans HAt.out.2 (fun _ _ h => h)).trans hk2 (fun k _ e => by subst e; exact h.inS.1)⟩
          rw [HE.out]
          refine ⟨by rw [b2]; simp, ?_, hk2.heap hp.bN h.ne.2.1, OwnRow.nil _ _ _ _, h.inS, h.ne, ?_⟩
          · have bF := hk2.heap hp.bF h.ne.1
            rw [e, T1.out, T2.out] at bF
            exact bF
          · have e2 := q.f64
            have e3 := q.len
            rw [e, T1.out, T2.out] at e2 e3
            exact ⟨by simpa [T1.out] using e3, q.pos, q.most, e2, q.n64, fun p hp => (by cases hp), q.left0, q.left1⟩
  · have HR := Lib.hid (show (if s.off = true then 14 else 0) = (14 : Int) by simp [ho])
    have HE := Lib.hid (show s.sync = (14, s) by unfold Disk.St.sync; rw [if_pos ho])
    clear ho
    go_enter Try.func86, Try.ntmps86
    go_wp2_with (go_at_call 61; refine Rets.use (ready_c h) ?_; rw [HR.out]; rintro v w' ⟨rfl, rfl⟩)
    go_ret
    exact ⟨by rw [HE.out]; rfl, ⟨vo, by rw [HE.out]; exact h⟩, Keeps.refl _ w⟩
end
end Go.Proofs.Ytbiohidelhfaiaa
