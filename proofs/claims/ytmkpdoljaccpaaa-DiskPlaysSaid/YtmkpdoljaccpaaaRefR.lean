/-
  The document's disk: Open, Bytes, Read.
-/
import Derived.Test.YtmkpdoljaccpaaaRefM
namespace Go.Proofs.Ytmkpdoljaccpaaa
open Go.RowKit Go.Canon Go.Mem Go.Args
open Go.Disk (St)
set_option linter.unusedVariables false
set_option linter.unusedSimpArgs false
section
variable {w : World} {x : Nat} {R T : Nat → Prop} {r : RefD}
/-- A write's cells. -/
theorem WrsRd.at {v : Value} {cs : List Value} {l : List Wr} {g m c : Nat} (h : WrsRd w T cs l) (hO : OwnRow w R 109 3 v l.length cs) (hv : v = .slice (some ⟨g, 0, none⟩) m c) {i : Nat} {p : Wr} (hi : l[i]? = some p) : ∃ u, w.cell? ⟨g, i * 3, none⟩ = some (.int .i64 p.at_) ∧ w.cell? ⟨g, i * 3 + 1, none⟩ = some u ∧ w.cell? ⟨g, i * 3 + 2, none⟩ = some (.bool p.sure) ∧ Rd w T u p.b.length (Disk.bytes8 p.b) := by
  obtain ⟨u, h1, h2, h3, h4⟩ := h.2 i p hi
  rw [Nat.mul_comm] at h1 h2 h3
  exact ⟨u, hO.cells hv _ _ h1, hO.cells hv _ _ h2, hO.cells hv _ _ h3, h4⟩
set_option maxHeartbeats 1600000 in
set_option maxRecDepth 100000 in
theorem ropen_c (h : RefMem w x R T r) (hl : r.l.length ≤ 1000000) : Calls Try.prog 54 #[.pointer (some ⟨x, 0, none⟩)] w (Rets (Only (.int .i64 (r.opens : Int)) w)) := by
  obtain ⟨v, cs, hb, _, _, _, hO, hW⟩ := h
  have c1 : w.cell? ⟨x, 1, none⟩ = some v := (cell_of_row w x 1 _ _ _ hb).trans rfl
  have HO := Lib.hid hO
  have HW := Lib.hid hW
  obtain ⟨A, c, rfl, hc, _⟩ := hO.slice
  unfold RefD.opens
  clear hb hO hW
  generalize r.l = l at *
  go_enter Try.func54, Try.ntmps54
  go_wp2
  go_loopw [3, 4] (fun nv iv wr => ∃ k : Nat, k ≤ l.length ∧ iv = .int .i64 k ∧ nv = .int .i64 (((l.take k).countP fun w => !w.sure : Nat) : Int) ∧ ((l.take k).countP fun w => !w.sure) ≤ k ∧ wr = w) (fun _ iv _ => l.length - (intOf iv).toNat)
  case atStart => exact ⟨0, Nat.zero_le _, rfl, rfl, Nat.zero_le _, rfl⟩
  case round =>
    obtain ⟨k, hk, rfl, rfl, hcnt, rfl⟩ := hrel
    by_cases hlt : k < l.length
    · obtain ⟨g, cap, cur, e, _, _, _, _, _, _⟩ := HO.out.form (by omega)
      cases e
      obtain ⟨u, a0, a1, a2, _⟩ := HW.out.at HO.out rfl (List.getElem?_eq_getElem hlt)
      have HT := Lib.hid (show (l.take (k + 1)).countP (fun w => !w.sure) = (l.take k).countP (fun w => !w.sure) + if l[k].sure = true then 0 else 1 by
        rw [List.take_add_one, List.getElem?_eq_getElem hlt, List.countP_append]
        cases hs : l[k].sure <;> simp [hs])
      generalize l[k] = p at *
      generalize ((l.take k).countP fun w => !w.sure) = q at *
      cases hs : p.sure with
      | true =>
        rw [hs] at a2 HT
        clear hs
        go_wp2
        go_roundw
        case rel => exact ⟨k + 1, by omega, by go_num, by rw [HT.out]; simp, by rw [HT.out]; simp; omega, by trivial⟩
        case measure => simp [intOf]; omega
      | false =>
        rw [hs] at a2 HT
        clear hs
        go_wp2
        go_roundw
        case rel => exact ⟨k + 1, by omega, by go_num, by rw [HT.out]; go_num, by rw [HT.out]; simp; omega, by trivial⟩
        case measure => simp [intOf]; omega
    · obtain rfl : k = l.length := by omega
      rw [List.take_length] at *
      go_wp2
      go_ret
      exact ⟨rfl, rfl⟩
theorem bytesOf_hit {l : List Wr} {a : Int} {k : Nat} {p : Wr} (h : l[k]? = some p) (hp : p.at_ = a) (hn : hasAt (l.drop (k + 1)) a = false) : bytesOf l a = p.b := by
  have hk := (List.getElem?_eq_some_iff.1 h).1
  have e : l = l.take k ++ (p :: l.drop (k + 1)) := by
    have h1 : l.drop k = p :: l.drop (k + 1) := by
      rw [List.drop_eq_getElem_cons hk]
      congr 1
      exact (List.getElem?_eq_some_iff.1 h).2
    rw [← h1, List.take_append_drop]
  rw [e, bytesOf_app, if_pos (by rw [hasAt_cons, hp]; simp), bytesOf, if_neg (by rw [hn]; simp), if_pos hp]
/-- Bytes that are read, of old or of new. -/
def BytesIs (w : World) (T : Nat → Prop) (b : List Int) : Value → World → Prop := fun v w' => Rd w' (fun k => T k ∨ w.heap.size ≤ k) v b.length (Disk.bytes8 b) ∧ Keeps (fun _ => False) w w'
set_option maxHeartbeats 1600000 in
set_option maxRecDepth 100000 in
theorem rbytes_c (h : RefMem w x R T r) (hl : r.l.length ≤ 1000000) (a : Int) : Calls Try.prog 69 #[.pointer (some ⟨x, 0, none⟩), .int .i64 a] w (Rets (BytesIs w T (bytesOf r.l a))) := by
  obtain ⟨v, cs, hb, _, _, _, hO, hW⟩ := h
  have c1 : w.cell? ⟨x, 1, none⟩ = some v := (cell_of_row w x 1 _ _ _ hb).trans rfl
  have HO := Lib.hid hO
  have HW := Lib.hid hW
  obtain ⟨A, c, rfl, hc, _⟩ := hO.slice
  clear hb hO hW
  generalize r.l = l at *
  go_enter Try.func69, Try.ntmps69
  go_wp2
  go_loopw [5] (fun iv wr => ∃ k : Nat, k ≤ l.length ∧ iv = .int .i64 ((k : Int) - 1) ∧ Hid (hasAt (l.drop k) a = false) ∧ wr = w) (fun iv _ => (intOf iv + 1).toNat)
  case atStart => exact ⟨l.length, Nat.le_refl _, rfl, Lib.hid (by rw [List.drop_length]; rfl), rfl⟩
  case round =>
    obtain ⟨k, hk, rfl, HN, rfl⟩ := hrel
    cases k with
    | zero =>
      have HZ := Lib.hid (show bytesOf l a = Disk.zsec from bytesOf_not (by have := HN.out; simpa using this))
      go_wp2_with ((with_reducible refine at_ 34 rfl ?_); go_must (refine step_make rfl _ _ _ rfl 5 _ 1 1 Try.underlying38 row_byte _ _ 64 rfl rfl (by decide) (by simp only [maxLen]; omega) ?_); intro w2 hb2 hk2)
      go_ret
      rw [HZ.out]
      rw [show madeCells (Value.int .u8 0).cells (64 * 1) = (List.replicate 64 (Value.int .u8 0)).toArray from made_rep 1 64 (.int .u8 0) (by decide)] at hb2
      have hz : Disk.bytes8 Disk.zsec = List.replicate 64 (Value.int .u8 0) := by unfold Disk.zsec; simp [Disk.bytes8]
      refine ⟨?_, hk2⟩
      rw [Disk.zsec_len, hz]
      exact ⟨_, _, rfl, Nat.le_refl _, fun h => (by cases h), .inr ⟨_, 0, rfl, .inr (Nat.le_refl _), fun j u hu => by rw [cell_of_row w2 _ _ _ _ _ hb2, Nat.zero_add]; simpa using hu⟩⟩
    | succ k =>
      have e1 : ((k + 1 : Nat) : Int) - 1 = (k : Int) := by omega
      rw [e1]
      have hlt : k < l.length := by omega
      obtain ⟨g, cap, cur, e, _, _, _, _, _, _⟩ := HO.out.form (by omega)
      cases e
      obtain ⟨u, a0, a1, a2, ar⟩ := HW.out.at HO.out rfl (List.getElem?_eq_getElem hlt)
      have HH := Lib.hid (fun hp => bytesOf_hit (a := a) (List.getElem?_eq_getElem hlt) hp HN.out)
      have HC := Lib.hid (show hasAt (l.drop k) a = ((l[k].at_ == a) || hasAt (l.drop (k + 1)) a) by rw [List.drop_eq_getElem_cons hlt]; rfl)
      have HA := Lib.hid ar
      clear ar e1
      generalize l[k] = p at *
      by_cases hp : p.at_ = a
      · have HH := Lib.hid (HH.out hp)
        rw [hp] at a0
        clear hp
        go_wp2
        go_ret
        rw [HH.out]
        exact ⟨HA.out.mono (fun k h => .inl h), Keeps.refl _ _⟩
      · have hpb : (p.at_ == a) = false := by simpa using hp
        have HN2 := Lib.hid (show hasAt (l.drop k) a = false by rw [HC.out, hpb, HN.out]; rfl)
        clear hp
        go_wp2
        go_roundw
        case rel => exact ⟨k, by omega, by go_num, HN2, by trivial⟩
        case measure => simp [intOf]
def RefRead (w : World) (t : List Int × Int) : Value → World → Prop := fun v w' => Keeps (fun _ => False) w w' ∧ ∃ u, v = .tuple #[u, .int .i64 t.2] ∧ Rd w' (fun k => w.heap.size ≤ k) u t.1.length (Disk.bytes8 t.1)
set_option maxHeartbeats 1600000 in
theorem rread_c (h : RefMem w x R T r) (hl : r.l.length ≤ 1000000) (hb64 : ∀ a, (bytesOf r.l a).length ≤ 1000) (a : Int) : Calls Try.prog 53 #[.pointer (some ⟨x, 0, none⟩), .int .i64 a] w (Rets (RefRead w (r.read a))) := by
  have HI := Lib.hid h
  obtain ⟨v, cs, hb, _, _, _, _, _⟩ := h
  have c0 : w.cell? ⟨x, 0, none⟩ = some (.int .i64 r.n) := (cell_of_row w x 0 _ _ _ hb).trans rfl
  have c3 : w.cell? ⟨x, 3, none⟩ = some (.bool r.power) := (cell_of_row w x 3 _ _ _ hb).trans rfl
  clear hb
  cases hp : r.power with
  | false =>
    have HG := Lib.hid (show r.read a = ([], 14) by simp [RefD.read, hp])
    rw [hp] at c3
    clear hp
    go_enter Try.func53, Try.ntmps53
    go_wp2
    go_ret2
    rw [HG.out]
    exact ⟨Keeps.refl _ _, _, rfl, Rd.nil _ _⟩
  | true =>
    have HP := Lib.hid hp
    rw [hp] at c3
    clear hp
    by_cases h0 : a < 0
    · have HG := Lib.hid (show r.read a = ([], 2) by simp [RefD.read, HP.out, h0])
      go_enter Try.func53, Try.ntmps53
      go_wp2
      go_ret2
      rw [HG.out]
      exact ⟨Keeps.refl _ _, _, rfl, Rd.nil _ _⟩
    · by_cases h1 : r.n ≤ a
      · have HG := Lib.hid (show r.read a = ([], 2) by simp [RefD.read, HP.out, h1])
        go_enter Try.func53, Try.ntmps53
        go_wp2
        go_ret2
        rw [HG.out]
        exact ⟨Keeps.refl _ _, _, rfl, Rd.nil _ _⟩
      · have HG := Lib.hid (show r.read a = (bytesOf r.l a, 0) by unfold RefD.read; rw [if_neg (by rw [HP.out]; simp), if_neg (by omega)])
        have HBt := Lib.hid (rbytes_c HI.out hl a)
        have hbl := hb64 a
        generalize bytesOf r.l a = bt at *
        have hbl2 : bt.length ≤ 140737488355328 := by omega
        go_enter Try.func53, Try.ntmps53
        go_wp2_with (first
          | (go_at_call 23; refine Rets.use (copy_c _ bt hr1 hbl2) ?_; rintro v2 w2 ⟨hO2, hk2⟩)
          | (go_at_call 69; refine Rets.use HBt.out ?_; rintro v1 w1 ⟨hr1, hk1⟩))
        go_ret2
        rw [HG.out]
        exact ⟨hk1.trans hk2 (fun _ _ h => h), _, rfl, hO2.rd.mono (fun k h => Nat.le_trans hk1.size h)⟩
end
end Go.Proofs.Ytmkpdoljaccpaaa
