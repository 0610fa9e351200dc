/-
  The document's disk: more writes.
-/
import Derived.Test.YtmkpdoljaccpaaaRefR
namespace Go.Proofs.Ytmkpdoljaccpaaa
open Go.RowKit Go.Canon Go.Mem Go.Args
open Go.Disk (St)
set_option linter.unusedVariables false
set_option linter.unusedSimpArgs false
theorem row_rwr : (Try.prog.info? 109).map (fun i => (i.zero, i.size, i.bytes)) = some (some (.agg #[.int .i64 0, .slice none 0 0, .bool false]), 3, 40) := by kernel_rfl
theorem row2_rwr : (Try.prog.info? 109).map (fun i => (i.zero, i.size)) = some (some (.agg #[.int .i64 0, .slice none 0 0, .bool false]), 3) := by kernel_rfl
theorem info_rwrs : (Try.prog.info? 93).map (·.size) = some 1 := by kernel_rfl
/-- One more write behind the others. -/
theorem WrsRd.push {w : World} {T : Nat → Prop} {cs : List Value} {l : List Wr} (h : WrsRd w T cs l) {u : Value} {p : Wr} (hu : Rd w T u p.b.length (Disk.bytes8 p.b)) : WrsRd w T (cs ++ [.int .i64 p.at_, u, .bool p.sure]) (l ++ [p]) := by
  refine ⟨by rw [List.length_append, List.length_append, h.1]; simp; omega, fun i q hq => ?_⟩
  by_cases hi : i < l.length
  · rw [List.getElem?_append_left hi] at hq
    obtain ⟨v, h1, h2, h3, h4⟩ := h.2 i q hq
    have hl := h.1
    exact ⟨v, by rw [List.getElem?_append_left (by omega)]; exact h1, by rw [List.getElem?_append_left (by omega)]; exact h2, by rw [List.getElem?_append_left (by omega)]; exact h3, h4⟩
  · rw [List.getElem?_append_right (by omega)] at hq
    obtain rfl : i = l.length := by have := (List.getElem?_eq_some_iff.1 hq).1; simp at this; omega
    obtain rfl : p = q := by simpa using hq
    have hl := h.1
    exact ⟨u, by rw [List.getElem?_append_right (by omega), ← hl, Nat.sub_self]; rfl, by rw [List.getElem?_append_right (by omega), ← hl, Nat.add_sub_cancel_left]; rfl, by rw [List.getElem?_append_right (by omega), ← hl, Nat.add_sub_cancel_left]; rfl, hu⟩
/-- A write just laid. -/
theorem lit_wr {w : World} {a : Int} {u : Value} {sr : Bool} {B b : Nat} {t : TypeId} (hb : w.heap[b]? = some (.cells ([Value.agg #[.int .i64 a, u, .bool sr]].flatMap fun v => v.cells.toList).toArray t (0, 0))) (hB : B ≤ b) : Rd w (fun k => B ≤ k) (.slice (some ⟨b, 0, none⟩) 1 1) 1 [.int .i64 a, u, .bool sr] := by
  refine ⟨_, _, rfl, by decide, fun h => (by cases h), .inr ⟨b, 0, rfl, hB, fun j x hx => ?_⟩⟩
  rw [cell_of_row w _ _ _ _ _ hb, Nat.zero_add]
  simpa [Value.cells] using hx
theorem lit80 {w : World} {x : Int} {B : Nat} {t : TypeId} {b : Nat} (hb : w.heap[b]? = some (.cells ([Value.int .u8 x].flatMap fun v => v.cells.toList).toArray t (0, 0))) (hB : B ≤ b) : Rd w (fun k => B ≤ k) (.slice (some ⟨b, 0, none⟩) 1 1) 1 (Disk.bytes8 [x]) :=
  ⟨_, _, rfl, by decide, fun h => (by cases h), .inr ⟨b, 0, rfl, hB, fun j u hu => by rw [cell_of_row w _ _ _ _ _ hb, Nat.zero_add]; simpa [Value.cells, Disk.bytes8] using hu⟩⟩
theorem RefMem.kept {w w' : World} {x : Nat} {R T S : Nat → Prop} {r : RefD} (h : RefMem w x R T r) (hk : Keeps S w w') (hx : ¬ S x) (hR : ∀ k, R k → ¬ S k) (hT : ∀ k, T k → ¬ S k) : RefMem w' x R T r := by
  obtain ⟨v, cs, h1, h2, h3, h4, h5, h6⟩ := h
  exact ⟨v, cs, hk.heap h1 hx, h2, h3, h4, h5.kept hk hR, h6.kept hk hT⟩
/-- What a call that writes leaves. -/
def RPost (w : World) (x : Nat) (R T : Nat → Prop) (ans : Value) (r : RefD) : Value → World → Prop := fun v w' => v = ans ∧ Keeps (fun k => k = x ∨ R k) w w' ∧ ∃ R' T' : Nat → Prop, RefMem w' x R' T' r ∧ (∀ k, R' k → (R k ∨ w.heap.size ≤ k) ∧ k < w'.heap.size) ∧ (∀ k, T' k → (T k ∨ w.heap.size ≤ k) ∧ k < w'.heap.size)
theorem pad_rep {b f : List Int} {j : Nat} (h : f = b ++ List.replicate j 0) (hf : f.length = 64) : f = Disk.pad b := by
  subst h
  simp at hf
  unfold Disk.pad Disk.zsec
  rw [List.drop_replicate]
  congr 2; omega
set_option maxHeartbeats 3200000 in
set_option maxRecDepth 100000 in
theorem rwrite_c {w : World} {x : Nat} {R T ok : Nat → Prop} {r : RefD} (h : RefMem w x R T r) (hR : ∀ k, R k → k < w.heap.size) (hT : ∀ k, T k → k < w.heap.size) (hlen : r.l.length ≤ 1000000) (hl : -1 ≤ r.left ∧ r.left ≤ 9223372036854775807) (a : Int) (vb : Value) (b : List Int) (hb : Rd w ok vb b.length (Disk.bytes8 b)) (hok : ∀ k, ok k → k ≠ x) (hbl : b.length ≤ 1000) :
    Calls Try.prog 49 #[.pointer (some ⟨x, 0, none⟩), .int .i64 a, vb] w (Rets (RPost w x R T (.int .i64 (r.write a b).1) (r.write a b).2)) := by
  have HI := Lib.hid h
  have HSame := Lib.hid (show ∃ R' T' : Nat → Prop, RefMem w x R' T' r ∧ (∀ k, R' k → (R k ∨ w.heap.size ≤ k) ∧ k < w.heap.size) ∧ (∀ k, T' k → (T k ∨ w.heap.size ≤ k) ∧ k < w.heap.size) from ⟨R, T, h, fun k hk => ⟨.inl hk, hR k hk⟩, fun k hk => ⟨.inl hk, hT k hk⟩⟩)
  obtain ⟨v, cs, hbx, nR, nT, hRT, hO, hW⟩ := h
  have c0 : w.cell? ⟨x, 0, none⟩ = some (.int .i64 r.n) := (cell_of_row w x 0 _ _ _ hbx).trans rfl
  have c3 : w.cell? ⟨x, 3, none⟩ = some (.bool r.power) := (cell_of_row w x 3 _ _ _ hbx).trans rfl
  obtain ⟨Ab, cb, rfl, _⟩ := hb.slice
  have HRb := Lib.hid hb
  have hxw : x < w.heap.size := lt_of hbx
  clear hbx hb hO hW
  cases hp : r.power with
  | false =>
    have HG := Lib.hid (show r.write a b = (14, r) by simp [RefD.write, hp])
    rw [hp] at c3
    clear hp
    go_enter Try.func49, Try.ntmps49
    go_wp2
    go_ret
    rw [HG.out]
    exact ⟨rfl, Keeps.refl _ _, HSame.out⟩
  | true =>
    have HP := Lib.hid (show ¬ r.power = false by rw [hp]; simp)
    rw [hp] at c3
    clear hp
    by_cases h0 : a < 0
    · have HG := Lib.hid (show r.write a b = (2, r) by unfold RefD.write; rw [if_neg HP.out, if_pos (.inl h0)])
      go_enter Try.func49, Try.ntmps49
      go_wp2
      go_ret
      rw [HG.out]
      exact ⟨rfl, Keeps.refl _ _, HSame.out⟩
    · by_cases h1 : r.n ≤ a
      · have HG := Lib.hid (show r.write a b = (2, r) by unfold RefD.write; rw [if_neg HP.out, if_pos (.inr (.inl h1))])
        go_enter Try.func49, Try.ntmps49
        go_wp2
        go_ret
        rw [HG.out]
        exact ⟨rfl, Keeps.refl _ _, HSame.out⟩
      · by_cases h2 : 64 < b.length
        · have HG := Lib.hid (show r.write a b = (2, r) by unfold RefD.write; rw [if_neg HP.out, if_pos (.inr (.inr h2))])
          go_enter Try.func49, Try.ntmps49
          go_wp2
          go_ret
          rw [HG.out]
          exact ⟨rfl, Keeps.refl _ _, HSame.out⟩
        · have HGo := Lib.hid (goes_c HI.out hl)
          have hgl : r.goes.2.l = r.l ∧ r.goes.2.n = r.n := by unfold RefD.goes; split <;> (try split) <;> exact ⟨rfl, rfl⟩
          cases hg : r.goes.1 with
          | false =>
            have HG := Lib.hid (show r.write a b = (14, r.goes.2) by unfold RefD.write; rw [if_neg HP.out, if_neg (by omega), if_neg (by rw [hg]; simp)])
            rw [hg] at HGo
            clear hg hgl
            generalize r.goes.2 = r2 at *
            go_enter Try.func49, Try.ntmps49
            go_wp2_with (go_at_call 67; refine Rets.use HGo.out ?_; rintro v1 w1 ⟨rfl, hr1, hk1⟩)
            go_ret
            rw [HG.out]
            exact ⟨rfl, hk1.mono (fun k _ e => .inl e), R, T, hr1, fun k hk => ⟨.inl hk, Nat.lt_of_lt_of_le (hR k hk) hk1.size⟩, fun k hk => ⟨.inl hk, Nat.lt_of_lt_of_le (hT k hk) hk1.size⟩⟩
          | true =>
            have HG := Lib.hid (show r.write a b = (0, { r.goes.2 with l := r.l ++ [⟨a, Disk.pad b, false⟩] }) by unfold RefD.write; rw [if_neg HP.out, if_neg (by omega), if_pos hg])
            rw [hg] at HGo
            have HL := Lib.hid hgl.1
            clear hg hgl
            generalize r.goes.2 = r2 at *
            go_enter Try.func49, Try.ntmps49
            go_wp2_with (first
              | (go_at_call 23; refine Rets.use (copy_c _ b (HRb.out.kept hk1 (fun k h e => hok k h e)) (by omega)) ?_; rintro v2 w2 ⟨hO2, hk2⟩)
              | (go_at_call 67; refine Rets.use HGo.out ?_; rintro v1 w1 ⟨rfl, hr1, hk1⟩))
            have HO2 := Lib.hid hO2
            have HK2 := Lib.hid hk2
            have HR1 := Lib.hid hr1
            have hs1 := hk1.size
            have HK1 := Lib.hid hk1
            have hll : r2.l.length ≤ 1000000 := by rw [HL.out]; exact hlen
            clear hO2 hk2 hr1 hk1
            go_loopw [7] (fun fv wr => ∃ (f : List Int) (j : Nat), Hid (f = b ++ List.replicate j 0) ∧ f.length ≤ 64 ∧ OwnRow wr (fun k => w1.heap.size ≤ k) 5 1 fv f.length (Disk.bytes8 f) ∧ Keeps (fun _ => False) w1 wr) (fun fv _ => match fv with | .slice _ n _ => 64 - n | _ => 0)
            case atStart => exact ⟨b, 0, Lib.hid (by simp), by omega, HO2.out, HK2.out⟩
            case round =>
              obtain ⟨f, j, HF, hf64, hOf, hkf⟩ := hrel
              have HOf := Lib.hid hOf
              have HKf := Lib.hid hkf
              obtain ⟨Af, cf, rfl, _⟩ := hOf.slice
              clear hOf hkf HO2 HK2
              by_cases hlt : f.length < 64
              · go_wp2_with (first
                  | ((with_reducible refine at_ 38 rfl ?_); go_must (refine step_append_rd (ok2 := fun k => wr.heap.size ≤ k) rfl _ _ _ rfl 5 _ 1 1 Try.underlying38 row_byte rfl (by decide) (.slice Af f.length cf) f.length (Disk.bytes8 f) rfl (HOf.out.kept hk5 (fun _ _ h => h)) _ 1 (Disk.bytes8 [0]) rfl (lit80 hb5 (Nat.le_refl _)) rfl (Disk.bytes8_one [0]) (by simp only [maxLen]; omega) (by omega) ?_); intro v6 w6 hO6 hk6)
                  | ((with_reducible refine at_ 37 rfl ?_); go_must (refine step_lit rfl 38 _ 1 rfl [.int .u8 0] rfl rfl (by decide) 5 _ 1 Try.underlying38 row2_byte (by decide) (by decide) (by intro v hv; rw [List.mem_singleton] at hv; subst hv; rfl) ?_); intro w5 hb5 hk5 hs5))
                have hsz := HKf.out.size
                obtain ⟨A6, c6, rfl, _⟩ := hO6.slice
                go_roundw
                case rel => exact ⟨f ++ [0], j + 1, Lib.hid (by rw [HF.out, List.append_assoc, List.replicate_succ']), by simp; omega, by rw [List.length_append, Disk.bytes8_append]; exact hO6.mono (fun k _ h => by rcases h with h | h; exact h; have := hk5.size; omega), (HKf.out.trans hk5 (fun _ _ h => h)).trans hk6 (fun k hk h => by have := HOf.out.2 k h; omega)⟩
                case measure => simp; omega
              · have hfp : f = Disk.pad b := pad_rep HF.out (by omega)
                have HFp := Lib.hid hfp
                have hszf := HKf.out.size
                obtain ⟨v, cs, hbx, nR, nT, hRT, hO, hW⟩ := HR1.out.kept HKf.out (fun h => h) (fun _ _ h => h) (fun _ _ h => h)
                obtain ⟨A3, c3', rfl, _⟩ := hO.slice
                have c1 : wr.cell? ⟨x, 1, none⟩ = some (.slice A3 r2.l.length c3') := (cell_of_row wr x 1 _ _ _ hbx).trans rfl
                have HBx := Lib.hid hbx
                have HO3 := Lib.hid hO
                have HW3 := Lib.hid hW
                clear hbx hO hW hfp
                go_wp2_with (first
                  | ((with_reducible refine at_store 93 (.tmp 50) (.tmp 48) rfl ?_); go_must (refine step_store1 rfl _ _ _ rfl x 1 (.slice A8 (r2.l.length + 1) c8) _ _ rfl rfl rfl hb8 (by simp) info_rwrs ?_); intro w9 hb9 hk9 hs9)
                  | ((with_reducible refine at_ 48 rfl ?_); go_must (refine step_append_rd (ok2 := fun k => wr.heap.size ≤ k) rfl _ _ _ rfl 109 _ 3 40 Try.underlying93 row_rwr rfl (by decide) (.slice A3 r2.l.length c3') r2.l.length cs rfl (HO3.out.kept hk7 (fun _ _ h => h)) _ 1 [.int .i64 a, .slice Af f.length cf, .bool false] rfl (lit_wr hb7 (Nat.le_refl _)) rfl (by intro y hy; simp at hy; rcases hy with rfl | rfl | rfl <;> rfl) (by simp only [maxLen]; omega) (by omega) ?_); intro v8 w8 hO8 hk8; obtain ⟨A8, c8, rfl, _⟩ := hO8.slice; have hb8 := hk8.heap (hk7.heap HBx.out (fun h => h)) (fun h => nR (HO3.out.2 x h)))
                  | ((with_reducible refine at_ 47 rfl ?_); go_must (refine step_lit rfl 93 _ 1 rfl [.agg #[.int .i64 a, .slice Af f.length cf, .bool false]] rfl rfl (by decide) 109 _ 3 Try.underlying93 row2_rwr (by decide) (by decide) (by intro v hv; rw [List.mem_singleton] at hv; subst hv; rfl) ?_); intro w7 hb7 hk7 hs7))
                go_ret
                rw [HG.out]
                have k78 : Keeps R wr w8 := (hk7.mono (fun _ _ h => h.elim)).trans hk8 (fun k _ h => HO3.out.2 k h)
                have s7 := hk7.size
                have s8 := hk8.size
                have s9 := hk9.size
                have s01 := HK1.out.size
                have hWp : WrsRd w9 (fun k => T k ∨ (w1.heap.size ≤ k ∧ k < wr.heap.size)) (cs ++ [.int .i64 a, .slice Af f.length cf, .bool false]) (r2.l ++ [⟨a, Disk.pad b, false⟩]) := by
                  have hU : ∀ k, (T k ∨ (w1.heap.size ≤ k ∧ k < wr.heap.size)) → ¬ (R k ∨ k = x) := by
                    rintro k (h | h) (h' | h')
                    · exact hRT k h' h
                    · subst h'; exact nT h
                    · have := hR k h'; omega
                    · omega
                  have kA : Keeps (fun k => R k ∨ k = x) wr w9 := (k78.mono (fun _ _ h => .inl h)).trans hk9 (fun _ _ e => .inr e)
                  have h1 : WrsRd wr (fun k => T k ∨ (w1.heap.size ≤ k ∧ k < wr.heap.size)) cs r2.l := ⟨HW3.out.1, fun i p hi => by
                    obtain ⟨u, g1, g2, g3, g4⟩ := HW3.out.2 i p hi
                    exact ⟨u, g1, g2, g3, g4.mono (fun k h => .inl h)⟩⟩
                  refine WrsRd.push (p := ⟨a, Disk.pad b, false⟩) (h1.kept kA hU) ?_
                  have h2 := (HOf.out.rd.lt.mono (ok' := fun k => T k ∨ (w1.heap.size ≤ k ∧ k < wr.heap.size)) (fun k h => .inr h)).kept kA hU
                  rw [← HFp.out]; exact h2
                refine ⟨rfl, (HK1.out.mono (fun k _ e => .inl e)).trans ((HKf.out.mono (fun _ _ h => h.elim)).trans ((k78.mono (fun _ _ h => .inr h)).trans hk9 (fun k _ e => .inl e)) (fun _ _ h => h)) (fun _ _ h => h), fun k => R k ∨ (wr.heap.size ≤ k ∧ k < w8.heap.size), fun k => T k ∨ (w1.heap.size ≤ k ∧ k < wr.heap.size), ⟨_, cs ++ [.int .i64 a, .slice Af f.length cf, .bool false], hb9, ?_, ?_, ?_, ?_, ?_⟩, ?_, ?_⟩
                · rintro (h | h)
                  · exact nR h
                  · omega
                · rintro (h | h)
                  · exact nT h
                  · omega
                · rintro k (h | h) (h' | h')
                  · exact hRT k h h'
                  · have := hR k h; omega
                  · have := hT k h'; omega
                  · omega
                · rw [← HL.out, List.length_append]
                  refine (hO8.mono (fun k hk h => ?_)).kept hk9 (fun k hk e => ?_)
                  · rcases h with h | h
                    · exact .inl h
                    · exact .inr ⟨by omega, hk⟩
                  · subst e
                    rcases hk with h | h
                    · exact nR h
                    · omega
                · rw [← HL.out]; exact hWp
                · rintro k (h | h)
                  · exact ⟨.inl h, by have := hR k h; omega⟩
                  · exact ⟨.inr (by omega), by omega⟩
                · rintro k (h | h)
                  · exact ⟨.inl h, by have := hT k h; omega⟩
                  · exact ⟨.inr (by omega), by omega⟩
end Go.Proofs.Ytmkpdoljaccpaaa
