/-
  A store: a disk, a log, a map; Commit.
-/
import Derived.Test.YtbiohidelhfaiaaStoE
import Derived.Test.YtbiohidelhfaiaaEncW
import Derived.Test.YtbiohidelhfaiaaWalT
namespace Go.Proofs.Ytbiohidelhfaiaa
open Go.RowKit Go.Canon Go.Mem Go.Args
open Go.Disk (St)
open Go.Proofs.Ytbiohidelhfaiaa.Sto (Chg)
set_option linter.unusedVariables false
set_option linter.unusedSimpArgs false
structure StoS where
  L : LogS
  q : Int
  M : Sto.Mp
  u : Int
  n : Nat
namespace Sto
/-- What would be used. -/
def thenGo (M : Mp) (t : Int) (l : List Chg) : Int := l.foldl (fun t c => if c.del = true then t - costF M c.key else t - costF M c.key + (c.key.length + c.val.length)) t
theorem thenGo_next (M : Mp) (t : Int) {l : List Chg} {k : Nat} (h : k < l.length) : thenGo M t (l.take (k + 1)) = if l[k].del = true then thenGo M t (l.take k) - costF M l[k].key else thenGo M t (l.take k) - costF M l[k].key + (l[k].key.length + l[k].val.length) := by
  unfold thenGo
  rw [List.take_add_one, List.getElem?_eq_getElem h, List.foldl_append]; rfl
end Sto
def commitP (s : St) (S : StoS) (l : List Chg) : Int × St × StoS :=
  if Sto.chk l ≠ 0 then (Sto.chk l, s, S)
  else if S.q < Sto.thenGo S.M S.u l ∧ S.u < Sto.thenGo S.M S.u l then (12, s, S)
  else if (appendP s S.L (Sto.encL l)).1 ≠ 0 then ((appendP s S.L (Sto.encL l)).1, (appendP s S.L (Sto.encL l)).2.1, { S with L := (appendP s S.L (Sto.encL l)).2.2 })
  else (0, (appendP s S.L (Sto.encL l)).2.1, ⟨(appendP s S.L (Sto.encL l)).2.2, S.q, (Sto.doF (S.M, S.u) l).1, (Sto.doF (S.M, S.u) l).2, S.n + l.length⟩)
/-- A disk, a log, a store in memory, apart. -/
structure SP (W w : World) (g x y bm : Nat) (P Q R : Nat → Prop) (s : St) (S : StoS) : Prop where
  d : DIs w P g s
  m : LogMem w y Q g S.L
  s : SIs w x bm R (.pointer (some ⟨y, 0, none⟩)) S.q S.n (S.M, S.u)
  p : ∀ k, P k → W.heap.size ≤ k ∧ k < w.heap.size ∧ ¬ Q k ∧ ¬ R k ∧ k ≠ x ∧ k ≠ bm
  q : ∀ k, Q k → W.heap.size ≤ k ∧ k < w.heap.size ∧ ¬ R k ∧ k ≠ x ∧ k ≠ bm
  r : ∀ k, R k → W.heap.size ≤ k ∧ k < w.heap.size
  x : W.heap.size ≤ x
  b : W.heap.size ≤ bm
theorem SP.kept {W w w' : World} {g x y bm : Nat} {P Q R : Nat → Prop} {s : St} {S : StoS} (h : SP W w g x y bm P Q R s S) (hk : Keeps (fun _ => False) w w') : SP W w' g x y bm P Q R s S := by
  have hz := hk.size
  exact ⟨h.d.kept hk (fun _ _ h => h), h.m.kept hk (fun _ _ h => h), h.s.kept0 hk, fun k hp => by have := h.p k hp; exact ⟨this.1, by omega, this.2.2⟩, fun k hq => by have := h.q k hq; exact ⟨this.1, by omega, this.2.2⟩, fun k hr => by have := h.r k hr; exact ⟨this.1, by omega⟩, h.x, h.b⟩
theorem SP.append {W w w' : World} {g x y bm : Nat} {P Q R : Nat → Prop} {s : St} {S : StoS} (h : SP W w g x y bm P Q R s S) (hW : W.heap.size ≤ w.heap.size) {r : Int × St × LogS} {v : Value} (hp : APost w P Q g y r v w') : ∃ P' Q', SP W w' g x y bm P' Q' R r.2.1 { S with L := r.2.2 } := by
  obtain ⟨rfl, hk, Q', hQ', hd, hm⟩ := hp
  have hz := hk.size
  have hlx := h.s.lt
  refine ⟨_, Q', hd.bound, hm, h.s.kept hk (fun e => e.elim (fun e => (h.p _ e).2.2.2.2.1 rfl) (fun e => (h.q _ e).2.2.2.1 rfl)) (fun e => e.elim (fun e => (h.p _ e).2.2.2.2.2 rfl) (fun e => (h.q _ e).2.2.2.2 rfl)) (fun j hj e => e.elim (fun e => (h.p _ e).2.2.2.1 hj) (fun e => (h.q _ e).2.2.1 hj)), ?_, ?_, fun k hr => by have := h.r k hr; exact ⟨this.1, by omega⟩, h.x, h.b⟩
  · rintro k ⟨⟨h1, h2⟩, h3⟩
    rcases h1 with h1 | h1
    · have := h.p k h1
      exact ⟨this.1, h3, h2, this.2.2.2⟩
    · exact ⟨by omega, h3, h2, fun e => by have := h.r k e; omega, by omega, by omega⟩
  · intro k hq
    obtain ⟨h1, h3⟩ := hQ' k hq
    rcases h1 with h1 | h1
    · have := h.q k h1
      exact ⟨this.1, h3, this.2.2⟩
    · exact ⟨by omega, h3, fun e => by have := h.r k e; omega, by omega, by omega⟩
theorem SP.does {W w w' : World} {g x y bm n : Nat} {P Q R : Nat → Prop} {s : St} {S : StoS} {s' : Sto.Mp × Int} {v : Value} (h : SP W w g x y bm P Q R s S) (hW : W.heap.size ≤ w.heap.size) (hp : DoPost w x bm R (.pointer (some ⟨y, 0, none⟩)) S.q n s' v w') : ∃ R', SP W w' g x y bm P Q R' s ⟨S.L, S.q, s'.1, s'.2, n⟩ := by
  obtain ⟨rfl, hk, hs⟩ := hp
  have hz := hk.size
  have hlx := h.s.lt
  refine ⟨fun j => (R j ∨ w.heap.size ≤ j) ∧ j < w'.heap.size, h.d.kept hk (fun k hk e => by have := h.p k hk; rcases e with e | e; exact this.2.2.2.2.1 e; exact this.2.2.2.2.2 e), h.m.kept hk (fun k hk e => by have := h.q k hk; rcases e with e | e; exact this.2.2.2.1 e; exact this.2.2.2.2 e), ⟨hs.blk, hs.map.mono (Nat.le_refl _) (fun j hj h => ⟨h, hj⟩), fun e => hs.r1 e.1, fun e => hs.r2 e.1, hs.ne⟩, ?_, ?_, ?_, h.x, h.b⟩
  · intro k hp
    have := h.p k hp
    exact ⟨this.1, by omega, this.2.2.1, fun e => e.1.elim this.2.2.2.1 (fun e => by omega), this.2.2.2.2⟩
  · intro k hq
    have := h.q k hq
    exact ⟨this.1, by omega, fun e => e.1.elim this.2.2.1 (fun e => by omega), this.2.2.2⟩
  · rintro k ⟨h1 | h1, h2⟩
    · exact ⟨(h.r k h1).1, h2⟩
    · exact ⟨by omega, h2⟩
def SL (W w : World) (g x : Nat) (s : St) (S : StoS) : Prop := Keeps (fun _ => False) W w ∧ ∃ (y bm : Nat) (P Q R : Nat → Prop), SP W w g x y bm P Q R s S
theorem SL.kept {W w w' : World} {g x : Nat} {s : St} {S : StoS} (h : SL W w g x s S) (hk : Keeps (fun _ => False) w w') : SL W w' g x s S := by
  obtain ⟨h0, y, bm, P, Q, R, h⟩ := h
  exact ⟨h0.trans hk (fun _ _ h => h), y, bm, P, Q, R, h.kept hk⟩
def ComPost (W w0 w : World) (g x : Nat) (r : Int × St × StoS) : Value → World → Prop := fun v w' => v = .int .i64 r.1 ∧ SL W w' g x r.2.1 r.2.2 ∧ Keeps (fun k => W.heap.size ≤ k ∧ k < w0.heap.size) w w'
theorem enc_len {l : List Chg} (h : Sto.chk l = 0) : (Sto.encL l).length ≤ 100000 := by
  obtain ⟨h1, h2, h3⟩ := Sto.chk_good h
  have := encs_len l (fun c hc => (h1 c hc).2)
  have := varF_len l.length
  unfold Sto.encL
  rw [List.length_append]
  omega
set_option maxHeartbeats 12800000 in
set_option maxRecDepth 100000 in
theorem commit_c {W w0 w : World} {ok : Nat → Prop} {g x : Nat} {s : St} {S : StoS} (h : SL W w0 g x s S) (hk : Keeps (fun _ => False) w0 w) (few : s.opn.length ≤ 900000) (hnx : S.L.next ≤ s.now.length) (htx : S.L.texts.length ≤ 4096) (hn : S.n ≤ 900000) (hu : -100000000000000 ≤ S.u ∧ S.u ≤ 100000000000000)
    (l : List Chg) (hB : ChgB l) (hl : l.length ≤ 1000000) (v : Value) (hc : Chgs w ok v l) (hok : ∀ k, ok k → (k < W.heap.size ∨ w0.heap.size ≤ k) ∧ k < w.heap.size) : Calls Try.prog 26 #[.pointer (some ⟨x, 0, none⟩), v] w (Rets (ComPost W w0 w g x (commitP s S l))) := by
  have HSL := Lib.hid (h.kept hk)
  obtain ⟨h0, y, bm, P, Q, R, h⟩ := h
  have hz0 := h0.size
  have hz := hk.size
  have HPQ := Lib.hid (show (∀ k, P k ∨ Q k → W.heap.size ≤ k ∧ k < w0.heap.size) from fun k hk => hk.elim (fun e => ⟨(h.p k e).1, (h.p k e).2.1⟩) (fun e => ⟨(h.q k e).1, (h.q k e).2.1⟩))
  have HR0 := Lib.hid (show (∀ k, R k → W.heap.size ≤ k ∧ k < w0.heap.size) from h.r)
  have hx0 := h.x
  have hb0 := h.b
  have hlx0 := h.s.lt
  have h := h.kept hk
  have h0w := h0.trans hk (fun _ _ h => h)
  have hS := h.s
  have hlx := hS.lt
  obtain ⟨A, c, rfl, hlc, _, _⟩ := id hc
  have x0 : w.cell? ⟨x, 0, none⟩ = some (.pointer (some ⟨y, 0, none⟩)) := (cell_of_row w _ 0 _ _ _ hS.blk).trans rfl
  have x1 : w.cell? ⟨x, 1, none⟩ = some (.int .i64 S.q) := (cell_of_row w _ 1 _ _ _ hS.blk).trans rfl
  have x2 : w.cell? ⟨x, 2, none⟩ = some (.int .i64 S.u) := hS.c2
  have HE := Lib.hid (encode_c l hB hl _ hc (fun k hk => (hok k hk).2))
  have HB := Lib.hid hB
  have HC := Lib.hid hc
  have HS := Lib.hid hS
  have HW := Lib.hid h0w
  have H := Lib.hid h
  have HOk := Lib.hid hok
  clear hB hc hS h0w h0 hk hok h
  by_cases hz : Sto.chk l = 0
  · obtain ⟨hg, hl1, hl16⟩ := Sto.chk_good hz
    have HG := Lib.hid hg
    rw [show Sto.enc l = (Sto.encL l, 0) by unfold Sto.enc; rw [if_neg (fun h => h hz)]] at HE
    have HZ := Lib.hid hz
    have hel := enc_len hz
    clear hz hg
    generalize hE : Sto.encL l = b at *
    have HEb := Lib.hid hE
    clear hE
    go_enter Try.func26, Try.ntmps26
    go_wp2_with (go_at_call 12; refine Rets.use HE.out ?_; rintro v2 w2 ⟨hk2, u2, rfl, hO2⟩; have x0 := hk2.cell x0 (fun h => h); have x1 := hk2.cell x1 (fun h => h); have x2 := hk2.cell x2 (fun h => h))
    have HO2 := Lib.hid hO2
    have HK2 := Lib.hid hk2
    have hz2 := hk2.size
    have HX0 := Lib.hid x0
    have HX1 := Lib.hid x1
    have HX2 := Lib.hid x2
    have HS2 := Lib.hid (HS.out.kept0 hk2)
    clear hO2 hk2 x0 x1 x2
    go_loopw [7, 34] (fun tv iv wr => ∃ (k : Nat) (t : Int), k ≤ l.length ∧ tv = .int .i64 t ∧ iv = .int .i64 k ∧ Hid (t = Sto.thenGo S.M S.u (l.take k)) ∧ S.u - 4000000 * k ≤ t ∧ t ≤ S.u + 4000000 * k ∧ Keeps (fun _ => False) w2 wr) (fun _ iv _ => l.length - (intOf iv).toNat)
    case atStart => exact ⟨0, S.u, Nat.zero_le _, rfl, rfl, Lib.hid rfl, by omega, by omega, Keeps.refl _ _⟩
    case round =>
      obtain ⟨k, t, hk, rfl, rfl, HT, ht1, ht2, hkr⟩ := hrel
      have HKr := Lib.hid hkr
      have hwr := hkr.size
      by_cases hlt : k < l.length
      · obtain ⟨A', c', e, _, _, hin⟩ := HC.out
        cases e
        obtain ⟨b1, o, e, hb0, vV, c0, c1, c2, hrV⟩ := hin k _ (List.getElem?_eq_getElem hlt)
        cases e
        obtain ⟨Av, cv, rfl, _⟩ := hrV.slice
        obtain ⟨hb1, hb2, hb3, hb4⟩ := HB.out _ (List.getElem_mem hlt)
        have HN := Lib.hid (Sto.thenGo_next S.M S.u hlt)
        have hkw := HK2.out.trans hkr (fun _ _ h => h)
        have c0 := hkw.cell c0 (fun h => h)
        have c1 := hkw.cell c1 (fun h => h)
        have c2 := hkw.cell c2 (fun h => h)
        have hcs := HS.out.map.cost hb1 hb3
        have HCo := Lib.hid (fun (w' : World) (h : SIs w' x bm R (.pointer (some ⟨y, 0, none⟩)) S.q S.n (S.M, S.u)) => cost_c h.c3 h.map l[k].key hb1 hb3)
        generalize l[k] = d at *
        obtain ⟨key, del, val⟩ := d
        simp only at c0 c1 c2 hb1 hb2 hb3 hb4 HN hcs HCo
        have zk := str_size key
        obtain ⟨sk, hsk⟩ : ∃ s, s = str key := ⟨_, rfl⟩
        rw [← hsk] at c0 zk HCo
        have HSr := Lib.hid (HS2.out.kept0 hkr)
        clear hin hrV hkr hsk hb1 hb2 hkw
        cases del with
        | true =>
          go_wp2_with (first
            | ((with_reducible refine at_ 9 rfl ?_); go_must (refine step_alloc rfl _ rfl _ chgZ row_chg rfl ?_); intro w3 hb3' hk3 hs3)
            | ((with_reducible refine at_store 41 (.tmp 9) (.tmp 37) rfl ?_); go_must (refine step_store rfl _ _ _ rfl wr.heap.size 0 [.string sk, .bool true, .slice Av val.length cv] _ _ rfl rfl hb3' (by simp [chgZ]) info_chg (by simp [Value.oneCell']) ?_); intro w4 hb4' hk4 hs4; rw [put_whole (by rfl)] at hb4'; have d0 : w4.cell? ⟨wr.heap.size, 0, none⟩ = some (.string sk) := cell_of_row w4 _ _ _ _ _ hb4'; have d1 : w4.cell? ⟨wr.heap.size, 1, none⟩ = some (.bool true) := cell_of_row w4 _ _ _ _ _ hb4'; have d2 : w4.cell? ⟨wr.heap.size, 2, none⟩ = some (.slice Av val.length cv) := cell_of_row w4 _ _ _ _ _ hb4'; have KS := (((Keeps.refl (fun _ => False) wr).trans hk3 (fun _ _ h => h) |>.mono (S' := fun j => wr.heap.size ≤ j) (fun _ _ h => h.elim)).trans hk4 (fun j _ h => by omega) |>.mono (S' := fun _ => False) (fun j hj h => by omega)); have HK4 := Lib.hid (HKr.out.trans KS (fun _ _ h => h)); have HS4 := Lib.hid (HSr.out.kept0 KS))
            | (go_at_call 53; refine Rets.use (HCo.out _ HS4.out) ?_; rintro _ _ ⟨rfl, rfl⟩))
          go_roundw
          case rel => exact ⟨k + 1, t - Sto.costF S.M key, hlt, rfl, by go_num, Lib.hid (by rw [HN.out, HT.out]; simp), by omega, by omega, HK4.out⟩
          case measure => simp [intOf]; omega
        | false =>
          go_wp2_with (first
            | ((with_reducible refine at_ 9 rfl ?_); go_must (refine step_alloc rfl _ rfl _ chgZ row_chg rfl ?_); intro w3 hb3' hk3 hs3)
            | ((with_reducible refine at_store 41 (.tmp 9) (.tmp 37) rfl ?_); go_must (refine step_store rfl _ _ _ rfl wr.heap.size 0 [.string sk, .bool false, .slice Av val.length cv] _ _ rfl rfl hb3' (by simp [chgZ]) info_chg (by simp [Value.oneCell']) ?_); intro w4 hb4' hk4 hs4; rw [put_whole (by rfl)] at hb4'; have d0 : w4.cell? ⟨wr.heap.size, 0, none⟩ = some (.string sk) := cell_of_row w4 _ _ _ _ _ hb4'; have d1 : w4.cell? ⟨wr.heap.size, 1, none⟩ = some (.bool false) := cell_of_row w4 _ _ _ _ _ hb4'; have d2 : w4.cell? ⟨wr.heap.size, 2, none⟩ = some (.slice Av val.length cv) := cell_of_row w4 _ _ _ _ _ hb4'; have KS := (((Keeps.refl (fun _ => False) wr).trans hk3 (fun _ _ h => h) |>.mono (S' := fun j => wr.heap.size ≤ j) (fun _ _ h => h.elim)).trans hk4 (fun j _ h => by omega) |>.mono (S' := fun _ => False) (fun j hj h => by omega)); have HK4 := Lib.hid (HKr.out.trans KS (fun _ _ h => h)); have HS4 := Lib.hid (HSr.out.kept0 KS))
            | (go_at_call 53; refine Rets.use (HCo.out _ HS4.out) ?_; rintro _ _ ⟨rfl, rfl⟩))
          go_roundw
          case rel => exact ⟨k + 1, t - Sto.costF S.M key + (key.length + val.length), hlt, rfl, by go_num, Lib.hid (by rw [HN.out, HT.out]; simp), by omega, by omega, HK4.out⟩
          case measure => simp [intOf]; omega
      · obtain rfl : k = l.length := by omega
        rw [List.take_length] at HT
        have x0 := hkr.cell HX0.out (fun h => h)
        have x1 := hkr.cell HX1.out (fun h => h)
        have x2 := hkr.cell HX2.out (fun h => h)
        have HF := Lib.hid (show commitP s S l = if S.q < t ∧ S.u < t then (12, s, S)
          else if (appendP s S.L b).1 ≠ 0 then ((appendP s S.L b).1, (appendP s S.L b).2.1, { S with L := (appendP s S.L b).2.2 })
          else (0, (appendP s S.L b).2.1, ⟨(appendP s S.L b).2.2, S.q, (Sto.doF (S.M, S.u) l).1, (Sto.doF (S.M, S.u) l).2, S.n + l.length⟩) by
          unfold commitP; rw [if_neg (fun h => h HZ.out), ← HT.out, HEb.out])
        have hkw := HK2.out.trans hkr (fun _ _ h => h)
        have HKw := Lib.hid hkw
        have Hr := Lib.hid (H.out.kept hkw)
        clear hkr hkw HT
        by_cases hqt : S.q < t
        · by_cases hut : S.u < t
          · have HZ2 := Lib.hid (show commitP s S l = (12, s, S) by rw [HF.out, if_pos ⟨hqt, hut⟩])
            go_wp2
            go_ret
            rw [HZ2.out]
            exact ⟨rfl, HSL.out.kept HKw.out, HKw.out.mono (fun _ _ h => h.elim)⟩
          · have HF2 := Lib.hid (HF.out.trans (if_neg (fun h => hut h.2)))
            have HA := Lib.hid (append_c (w := wr) (ok := fun j => w.heap.size ≤ j ∧ j < w2.heap.size) Hr.out.d Hr.out.m (fun k h => (Hr.out.p k h).2.2.1) (fun k h => (Hr.out.q k h).2.1) few hnx htx u2 b (((HO2.out.mono (fun j hj h => ⟨h, hj⟩)).rd).kept HKr.out (fun _ _ h => h)) (fun k h => ⟨fun e => by have := HPQ.out k (.inl e); omega, fun e => by have := HPQ.out k (.inr e); omega⟩) (by omega))
            cases hr : appendP s S.L b with
            | mk e r2 =>
              rw [hr] at HA HF2
              obtain ⟨s', L'⟩ := r2
              simp only at HF2
              clear hr
              by_cases he : e = 0
              · subst he
                have HF3 := Lib.hid (HF2.out.trans (if_neg (fun h => h rfl)))
                go_wp2_with (first
                  | (go_at_call 54; refine Rets.use HA.out ?_; intro v3 w3 hp3; obtain rfl := hp3.1; have hk3 := hp3.2.1; have H3 := Lib.hid (Hr.out.append (by omega) hp3))
                  | (go_at_call 52; refine Rets.use (do_c (ok := ok) (R := R) (n := S.n) (s := (S.M, S.u)) H3.out.choose_spec.choose_spec.s (fun k h => by have := HR0.out k h; have := hk3.size; omega) l HB.out hl (by omega) ⟨by show _ ≤ S.u; omega, by show S.u ≤ _; omega⟩ _ ((HC.out.kept HKw.out (fun _ _ h => h)).kept hk3 (fun k h e => by have := HPQ.out k e; have := HOk.out k h; omega)) (fun k h => by have := HOk.out k h; have := hk3.size; exact ⟨by omega, by omega, by omega⟩)) ?_; intro v5 w5 hp5))
                obtain ⟨P3, Q3, h3⟩ := H3.out
                obtain ⟨R5, h5⟩ := h3.does (by have := hk3.size; omega) hp5
                obtain ⟨rfl, hk5, _⟩ := hp5
                go_wp2
                go_ret
                rw [HF3.out]
                have hk35 : Keeps (fun k => W.heap.size ≤ k ∧ k < w0.heap.size) w w5 := ((HKw.out.mono (S' := fun k => W.heap.size ≤ k ∧ k < w0.heap.size) (fun _ _ h => h.elim)).trans hk3 (fun k _ h => HPQ.out k h)).trans hk5 (fun k _ h => by rcases h with rfl | rfl; exact ⟨by omega, by omega⟩; exact ⟨by omega, by omega⟩)
                exact ⟨rfl, ⟨HW.out.trans hk35 (fun k hk h => by omega), y, bm, P3, Q3, R5, h5⟩, hk35⟩
              · have HF3 := Lib.hid (HF2.out.trans (if_pos he))
                have hqe : (e != 0) = true := by simpa using he
                go_wp2_with (go_at_call 54; refine Rets.use HA.out ?_; intro v3 w3 hp3; obtain rfl := hp3.1; have hk3 := hp3.2.1; have H3 := Lib.hid (Hr.out.append (by omega) hp3))
                obtain ⟨P3, Q3, h3⟩ := H3.out
                go_ret
                rw [HF3.out]
                have hk35 : Keeps (fun k => W.heap.size ≤ k ∧ k < w0.heap.size) w w3 := ((HKw.out.mono (S' := fun k => W.heap.size ≤ k ∧ k < w0.heap.size) (fun _ _ h => h.elim)).trans hk3 (fun k _ h => HPQ.out k h))
                exact ⟨rfl, ⟨HW.out.trans hk35 (fun k hk h => by omega), y, bm, P3, Q3, R, h3⟩, hk35⟩
        · have HF2 := Lib.hid (HF.out.trans (if_neg (fun h => hqt h.1)))
          have HA := Lib.hid (append_c (w := wr) (ok := fun j => w.heap.size ≤ j ∧ j < w2.heap.size) Hr.out.d Hr.out.m (fun k h => (Hr.out.p k h).2.2.1) (fun k h => (Hr.out.q k h).2.1) few hnx htx u2 b (((HO2.out.mono (fun j hj h => ⟨h, hj⟩)).rd).kept HKr.out (fun _ _ h => h)) (fun k h => ⟨fun e => by have := HPQ.out k (.inl e); omega, fun e => by have := HPQ.out k (.inr e); omega⟩) (by omega))
          cases hr : appendP s S.L b with
          | mk e r2 =>
            rw [hr] at HA HF2
            obtain ⟨s', L'⟩ := r2
            simp only at HF2
            clear hr
            by_cases he : e = 0
            · subst he
              have HF3 := Lib.hid (HF2.out.trans (if_neg (fun h => h rfl)))
              go_wp2_with (first
                | (go_at_call 54; refine Rets.use HA.out ?_; intro v3 w3 hp3; obtain rfl := hp3.1; have hk3 := hp3.2.1; have H3 := Lib.hid (Hr.out.append (by omega) hp3))
                | (go_at_call 52; refine Rets.use (do_c (ok := ok) (R := R) (n := S.n) (s := (S.M, S.u)) H3.out.choose_spec.choose_spec.s (fun k h => by have := HR0.out k h; have := hk3.size; omega) l HB.out hl (by omega) ⟨by show _ ≤ S.u; omega, by show S.u ≤ _; omega⟩ _ ((HC.out.kept HKw.out (fun _ _ h => h)).kept hk3 (fun k h e => by have := HPQ.out k e; have := HOk.out k h; omega)) (fun k h => by have := HOk.out k h; have := hk3.size; exact ⟨by omega, by omega, by omega⟩)) ?_; intro v5 w5 hp5))
              obtain ⟨P3, Q3, h3⟩ := H3.out
              obtain ⟨R5, h5⟩ := h3.does (by have := hk3.size; omega) hp5
              obtain ⟨rfl, hk5, _⟩ := hp5
              go_wp2
              go_ret
              rw [HF3.out]
              have hk35 : Keeps (fun k => W.heap.size ≤ k ∧ k < w0.heap.size) w w5 := ((HKw.out.mono (S' := fun k => W.heap.size ≤ k ∧ k < w0.heap.size) (fun _ _ h => h.elim)).trans hk3 (fun k _ h => HPQ.out k h)).trans hk5 (fun k _ h => by rcases h with rfl | rfl; exact ⟨by omega, by omega⟩; exact ⟨by omega, by omega⟩)
              exact ⟨rfl, ⟨HW.out.trans hk35 (fun k hk h => by omega), y, bm, P3, Q3, R5, h5⟩, hk35⟩
            · have HF3 := Lib.hid (HF2.out.trans (if_pos he))
              have hqe : (e != 0) = true := by simpa using he
              go_wp2_with (go_at_call 54; refine Rets.use HA.out ?_; intro v3 w3 hp3; obtain rfl := hp3.1; have hk3 := hp3.2.1; have H3 := Lib.hid (Hr.out.append (by omega) hp3))
              obtain ⟨P3, Q3, h3⟩ := H3.out
              go_ret
              rw [HF3.out]
              have hk35 : Keeps (fun k => W.heap.size ≤ k ∧ k < w0.heap.size) w w3 := ((HKw.out.mono (S' := fun k => W.heap.size ≤ k ∧ k < w0.heap.size) (fun _ _ h => h.elim)).trans hk3 (fun k _ h => HPQ.out k h))
              exact ⟨rfl, ⟨HW.out.trans hk35 (fun k hk h => by omega), y, bm, P3, Q3, R, h3⟩, hk35⟩
  · have HZ := Lib.hid (show commitP s S l = (Sto.chk l, s, S) by unfold commitP; rw [if_pos hz])
    have HE2 := Lib.hid (show Sto.enc l = ([], Sto.chk l) by unfold Sto.enc; rw [if_pos hz])
    rw [HE2.out] at HE
    have hq : (Sto.chk l != 0) = true := by simpa using hz
    generalize Sto.chk l = e at *
    clear hz
    go_enter Try.func26, Try.ntmps26
    go_wp2_with (go_at_call 12; refine Rets.use HE.out ?_; rintro v2 w2 ⟨hk2, u2, rfl, hO2⟩)
    go_ret
    rw [HZ.out]
    exact ⟨rfl, HSL.out.kept hk2, hk2.mono (fun _ _ h => h.elim)⟩
end Go.Proofs.Ytbiohidelhfaiaa
