/-
  Requests that ask: route.Print (beside the wire).
-/
import Derived.Test.YtibegbmehpggbaaPrintV
namespace Go.Proofs.Ytibegbmehpggbaa
open Go.RowKit Go.Canon Go.Mem Go.Args
set_option linter.unusedVariables false
set_option linter.unusedSimpArgs false
def PrintPost (w : World) (r : ReqP × Int) : Value → World → Prop := fun v w' => Keeps (fun _ => False) w w' ∧ ∃ u, v = .tuple #[reqV r.1 u, .int .i64 r.2] ∧ OwnRow w' (fun k => w.heap.size ≤ k) 5 1 u r.1.body.length (Disk.bytes8 r.1.body)
theorem formK_at {k : Nat} {i : Int} (h : k < formsL.length) (hn : ∀ g ∈ formsL.take k, (((g.kind : Nat) : Int) == i) = false) (hf : (((formsL[k].kind : Nat) : Int) == i) = true) : formK i = some formsL[k] := by
  unfold formK
  conv => lhs; rw [← List.take_append_drop k formsL]
  rw [List.find?_append, List.find?_eq_none.2 (fun g hg => by rw [hn g hg]; simp), List.drop_eq_getElem_cons h, List.find?_cons, hf]
  rfl
theorem formK_none {i : Int} (hn : ∀ g ∈ formsL.take 10, (((g.kind : Nat) : Int) == i) = false) : formK i = none := List.find?_eq_none.2 (fun g hg => by rw [hn g hg]; simp)
theorem first_len : ∀ g ∈ formsL, (bytesOf g.first).length ≤ 9 ∧ g.pieces ≤ 2 := by
  intro g hg
  simp only [formsL, List.mem_cons, List.not_mem_nil, or_false] at hg
  rcases hg with rfl | rfl | rfl | rfl | rfl | rfl | rfl | rfl | rfl | rfl <;> decide
theorem tgt_len {first : ByteArray} (hf : (bytesOf first).length ≤ 9) (num : Bool) (a : AskP) (h1 : a.name.length ≤ 30) (h2 : a.spec.length ≤ 30) : ∀ i, (tgtG first num a i).length ≤ 10 + 32 * i := by
  intro i
  induction i with
  | zero => simp [tgtG]; omega
  | succ i ih =>
    have hp : (pieceG num a i).length ≤ 31 := by
      unfold pieceG
      split
      · exact dec_len _
      · split <;> omega
    rw [tgtG, List.length_append, List.length_cons]
    omega
theorem tgt_byte (first : ByteArray) (num : Bool) {a : AskP} (h : a.Ok) : ∀ i, IsB (tgtG first num a i) := by
  have hp : ∀ i, IsB (pieceG num a i) := fun i => by
    unfold pieceG
    split
    · exact dec_byte _
    · split
      · exact h.name
      · exact h.spec
  have hc : ∀ {l : List Int}, IsB l → IsB (47 :: l) := fun hl x hx => (List.mem_cons.1 hx).elim (fun e => by rw [e]; decide) (hl x)
  intro i
  induction i with
  | zero => exact hc (bytesOf_byte _)
  | succ i ih => exact ih.app (hc (hp i))
theorem bytesOf_size (s : ByteArray) : (bytesOf s).length = s.size := by
  unfold bytesOf
  rw [List.length_map, Array.length_toList]
  rfl
theorem slash_first (gf : ByteArray) : (⟨#[47]⟩ : ByteArray) ++ gf = str (47 :: bytesOf gf) := by
  have h : (⟨#[47]⟩ : ByteArray) ++ str (bytesOf gf) = str (47 :: bytesOf gf) := str_app [47] (bytesOf gf)
  rwa [← str_of] at h
theorem row_form0 : (Try.prog.info? 87).map (fun i => i.zero) = some (some (.agg #[.string ⟨#[]⟩, .int .i64 0, .bool false, .string ⟨#[]⟩, .int .i64 0])) := by kernel_rfl
theorem row2_int : (Try.prog.info? 3).map (fun i => (i.zero, i.size)) = some (some (.int .i64 0), 1) := by kernel_rfl
theorem build_req (m s : ByteArray) (w : World) : (Instr.build 26 #[(0, .string m), (1, .string s)]).run Try.prog w = .ok (.agg #[.string m, .string s, .string ⟨#[]⟩, .slice none 0 0]) w := by kernel_rfl
theorem build_req0 (w : World) : (Instr.build 26 #[]).run Try.prog w = .ok (.agg #[.string ⟨#[]⟩, .string ⟨#[]⟩, .string ⟨#[]⟩, .slice none 0 0]) w := by kernel_rfl
theorem tgt_next (gf : ByteArray) (gn : Bool) (a : AskP) (i : Nat) : str (tgtG gf gn a i) ++ ((⟨#[47]⟩ : ByteArray) ++ str (pieceG gn a i)) = str (tgtG gf gn a (i + 1)) := by
  have h : (⟨#[47]⟩ : ByteArray) ++ str (pieceG gn a i) = str (47 :: pieceG gn a i) := str_app [47] _
  rw [h, str_app]; rfl
set_option maxHeartbeats 6400000 in
set_option maxRecDepth 100000 in
theorem print23_c {w : World} {ok : Nat → Prop} (a : AskP) (ha : a.Ok) (hl1 : a.name.length ≤ 30) (hl2 : a.spec.length ≤ 30) (hl3 : a.body.length ≤ 4200) (v : Value) (h1 : Rd w ok v a.body.length (Disk.bytes8 a.body)) : Calls Try.prog 30 #[askV a v] w (Rets (PrintPost w (printP a))) := by
  obtain ⟨A, c, rfl, _⟩ := h1.slice
  have HR := Lib.hid h1.lt
  have HA := Lib.hid ha
  clear h1
  unfold askV askC
  go_enter Try.func30, Try.ntmps30
  go_wp2_with (go_at_call 43; go_loud (refine Rets.use (forms_c _) ?_); rintro _ w3 ⟨rfl, hbF, hk3⟩; obtain ⟨hb0, hb1, hk3, hs3⟩ := after2 hk3)
  have hbF2 : w3.heap[w.heap.size + 1 + 1]? = some (.cells (formsL.flatMap FormP.cells).toArray 87 (0, 0)) := by simpa using hbF
  have H0 := Lib.hid hb0
  have H1 := Lib.hid hb1
  have HF3 := Lib.hid hbF2
  have HK3 := Lib.hid hk3
  clear hb0 hb1 hbF hbF2 hk3
  go_loopw [5, 6, 7, 8, 9, 10, 11, 14] (fun q1 q2 q3 q4 q5 q6 q7 i wr => ∃ k : Nat, k ≤ 10 ∧ i = .int .i64 k ∧ Hid (∀ g ∈ formsL.take k, (((g.kind : Nat) : Int) == a.kind) = false) ∧ Keeps (fun _ => False) w3 wr) (fun _ _ _ _ _ _ _ i _ => 10 - (intOf i).toNat)
  case atStart => exact ⟨0, Nat.zero_le _, rfl, Lib.hid (by simp), Keeps.refl _ _⟩
  case round =>
    obtain ⟨k, hk, rfl, HN, hkr⟩ := hrel
    have HKr := Lib.hid hkr
    have H0r := Lib.hid (hkr.heap H0.out (fun h => h))
    have H1r := Lib.hid (hkr.heap H1.out (fun h => h))
    have a0 : wr.cell? ⟨w.heap.size, 0, none⟩ = some (.int .i64 a.kind) := (cell_of_row wr _ 0 _ _ _ H0r.out).trans rfl
    clear hkr
    by_cases hlt : k < 10
    · have hlt2 : k < formsL.length := hlt
      have HG := Lib.hid (forms_at hlt2)
      have HGn := Lib.hid (forms_take hlt2)
      have HGm := Lib.hid (formK_at hlt2 HN.out)
      obtain ⟨hf9, hp2⟩ := first_len formsL[k] (List.getElem_mem _)
      generalize formsL[k] = g at *
      obtain ⟨gf, gp, gn, gm, gk⟩ := g
      simp only at HGm hf9 hp2
      cases hkk : ((gk : Nat) : Int) == a.kind with
      | false =>
        have hkn : (((gk : Nat) : Int) != a.kind) = true := by simpa using hkk
        go_wp2_with (first
          | ((with_reducible refine at_store 87 (.tmp 5) (.tmp 17) rfl ?_); go_must (refine step_store rfl _ _ _ rfl wr.heap.size 0 [.string gf, .int .i64 gp, .bool gn, .string gm, .int .i64 gk] _ _ rfl rfl hb4 (by simp) info_form (by simp [Value.oneCell']) ?_); intro w5 hb5 hk5 hs5; rw [put_whole (by rfl)] at hb5; have K5 := hk4.trans hk5 (fun k hk h => by omega); have a0 := K5.cell a0 (fun h => h); have f4 : w5.cell? ⟨wr.heap.size, 4, none⟩ = some (.int .i64 gk) := (cell_of_row w5 _ 4 _ _ _ hb5).trans rfl; have f0 : w5.cell? ⟨wr.heap.size, 0, none⟩ = some (.string gf) := (cell_of_row w5 _ 0 _ _ _ hb5).trans rfl; have f1 : w5.cell? ⟨wr.heap.size, 1, none⟩ = some (.int .i64 gp) := (cell_of_row w5 _ 1 _ _ _ hb5).trans rfl)
          | ((with_reducible refine at_ 5 rfl ?_); go_must (refine step_alloc rfl _ rfl _ [.string ⟨#[]⟩, .int .i64 0, .bool false, .string ⟨#[]⟩, .int .i64 0] row_form0 rfl ?_); intro w4 hb4 hk4 hs4)
          | ((with_reducible refine at_ 17 rfl ?_); go_must (refine step_load rfl _ _ rfl (w.heap.size + 1 + 1) (k * 5) [.string gf, .int .i64 gp, .bool gn, .string gm, .int .i64 gk] _ _ (0, 0) _ rfl (HKr.out.heap HF3.out (fun h => h)) HG.out Try.underlying87 rfl info_form ?_)))
        go_roundw
        case rel => exact ⟨k + 1, by omega, by go_num, Lib.hid (by rw [HGn.out]; intro g hg; rcases List.mem_append.1 hg with hg | hg; exact HN.out g hg; rw [List.mem_singleton] at hg; subst hg; exact hkk), HKr.out.trans K5 (fun _ _ h => h)⟩
        case measure => simp [intOf]; omega
      | true =>
        have hkn : (((gk : Nat) : Int) != a.kind) = false := by simpa using hkk
        have HGk := Lib.hid (HGm.out hkk)
        have zf : gf.size ≤ 9 := by rw [← bytesOf_size]; exact hf9
        have e0 := Lib.hid (show (⟨#[47]⟩ : ByteArray) ++ gf = str (tgtG gf gn a 0) from slash_first gf)
        go_wp2_with (first
          | ((with_reducible refine at_store 87 (.tmp 5) (.tmp 17) rfl ?_); go_must (refine step_store rfl _ _ _ rfl wr.heap.size 0 [.string gf, .int .i64 gp, .bool gn, .string gm, .int .i64 gk] _ _ rfl rfl hb4 (by simp) info_form (by simp [Value.oneCell']) ?_); intro w5 hb5 hk5 hs5; rw [put_whole (by rfl)] at hb5; have K5 := hk4.trans hk5 (fun k hk h => by omega); have a0 := K5.cell a0 (fun h => h); have f4 : w5.cell? ⟨wr.heap.size, 4, none⟩ = some (.int .i64 gk) := (cell_of_row w5 _ 4 _ _ _ hb5).trans rfl; have f0 : w5.cell? ⟨wr.heap.size, 0, none⟩ = some (.string gf) := (cell_of_row w5 _ 0 _ _ _ hb5).trans rfl; have f1 : w5.cell? ⟨wr.heap.size, 1, none⟩ = some (.int .i64 gp) := (cell_of_row w5 _ 1 _ _ _ hb5).trans rfl)
          | ((with_reducible refine at_ 5 rfl ?_); go_must (refine step_alloc rfl _ rfl _ [.string ⟨#[]⟩, .int .i64 0, .bool false, .string ⟨#[]⟩, .int .i64 0] row_form0 rfl ?_); intro w4 hb4 hk4 hs4)
          | ((with_reducible refine at_ 17 rfl ?_); go_must (refine step_load rfl _ _ rfl (w.heap.size + 1 + 1) (k * 5) [.string gf, .int .i64 gp, .bool gn, .string gm, .int .i64 gk] _ _ (0, 0) _ rfl (HKr.out.heap HF3.out (fun h => h)) HG.out Try.underlying87 rfl info_form ?_)))
        have hK35 := HKr.out.trans K5 (fun _ _ h => h)
        have H05 := Lib.hid (hK35.heap H0.out (fun h => h))
        have H15 := Lib.hid (hK35.heap H1.out (fun h => h))
        have HB5 := Lib.hid hb5
        have HK5 := Lib.hid (HK3.out.trans hK35 (fun _ _ h => h))
        have hBF : w.heap.size + 2 ≤ wr.heap.size := by have := HKr.out.size; omega
        clear a0 f0 f1 f4 hK35 K5 hk4 hk5 hb4 hb5 hs4 hs5 H0r H1r HG HGn HGm HN HF3 HKr H0 H1 HK3
        generalize wr.heap.size = BF at *
        go_loopw [6, 7, 8, 28] (fun s q1 q2 i wr2 => ∃ k2 : Nat, k2 ≤ gp ∧ i = .int .i64 k2 ∧ s = .string (str (tgtG gf gn a k2)) ∧ Keeps (fun _ => False) w5 wr2) (fun _ _ _ i _ => gp - (intOf i).toNat)
        case atStart => exact ⟨0, Nat.zero_le _, rfl, by rw [e0.out], Keeps.refl _ _⟩
        case round =>
          obtain ⟨i, hi, rfl, rfl, hkr⟩ := hrel
          have H0r := Lib.hid (hkr.heap H05.out (fun h => h))
          have HBr := Lib.hid (hkr.heap HB5.out (fun h => h))
          have HKr := Lib.hid hkr
          clear hkr
          by_cases hig : i < gp
          · have a1 : wr.cell? ⟨w.heap.size, 1, none⟩ = some (.string (str a.name)) := (cell_of_row wr _ 1 _ _ _ H0r.out).trans rfl
            have a2 : wr.cell? ⟨w.heap.size, 2, none⟩ = some (.string (str a.spec)) := (cell_of_row wr _ 2 _ _ _ H0r.out).trans rfl
            have a4 : wr.cell? ⟨w.heap.size, 4, none⟩ = some (.int .i64 a.a) := (cell_of_row wr _ 4 _ _ _ H0r.out).trans rfl
            have a5 : wr.cell? ⟨w.heap.size, 5, none⟩ = some (.int .i64 a.b) := (cell_of_row wr _ 5 _ _ _ H0r.out).trans rfl
            have f2 : wr.cell? ⟨BF, 2, none⟩ = some (.bool gn) := (cell_of_row wr _ 2 _ _ _ HBr.out).trans rfl
            have z1 : (str (tgtG gf gn a i)).size ≤ 100 := by rw [str_size]; have := tgt_len (first := gf) hf9 gn a hl1 hl2 i; omega
            have HN := Lib.hid (tgt_next gf gn a i)
            cases gn with
            | false =>
              have z2 : (str (pieceG false a i)).size ≤ 31 := by rw [str_size]; unfold pieceG; simp only [Bool.false_eq_true, if_false]; split <;> omega
              generalize str (tgtG gf false a i) = sx at *
              by_cases h0 : i = 0
              · subst h0
                have hpc : str (pieceG false a 0) = str a.name := rfl
                rw [hpc] at HN z2
                go_wp2_with (first
                  | ((with_reducible refine at_ 35 rfl ?_); go_must (refine step_lit rfl 88 _ 2 rfl [.string (str a.name), .string (str a.spec)] rfl rfl (by decide) 9 _ 1 Try.underlying88 row2_str (by decide) (by decide) (by intro v hv; simp only [List.mem_cons, List.not_mem_nil, or_false] at hv; rcases hv with rfl | rfl <;> rfl) ?_); intro w6 hb6 hk6 hs6; have s0 : w6.cell? ⟨wr.heap.size, 0, none⟩ = some (.string (str a.name)) := (cell_of_row w6 _ 0 _ _ _ hb6).trans rfl; have s1 : w6.cell? ⟨wr.heap.size, 1, none⟩ = some (.string (str a.spec)) := (cell_of_row w6 _ 1 _ _ _ hb6).trans rfl; have f2 := hk6.cell f2 (fun h => h)))
                go_roundw
                case rel => exact ⟨_, hig, by go_num, by rw [← HN.out], HKr.out.trans hk6 (fun _ _ h => h)⟩
                case measure => simp [intOf]; omega
              · obtain rfl : i = 1 := by omega
                have hpc : str (pieceG false a 1) = str a.spec := rfl
                rw [hpc] at HN z2
                go_wp2_with (first
                  | ((with_reducible refine at_ 35 rfl ?_); go_must (refine step_lit rfl 88 _ 2 rfl [.string (str a.name), .string (str a.spec)] rfl rfl (by decide) 9 _ 1 Try.underlying88 row2_str (by decide) (by decide) (by intro v hv; simp only [List.mem_cons, List.not_mem_nil, or_false] at hv; rcases hv with rfl | rfl <;> rfl) ?_); intro w6 hb6 hk6 hs6; have s0 : w6.cell? ⟨wr.heap.size, 0, none⟩ = some (.string (str a.name)) := (cell_of_row w6 _ 0 _ _ _ hb6).trans rfl; have s1 : w6.cell? ⟨wr.heap.size, 1, none⟩ = some (.string (str a.spec)) := (cell_of_row w6 _ 1 _ _ _ hb6).trans rfl; have f2 := hk6.cell f2 (fun h => h)))
                go_roundw
                case rel => exact ⟨_, hig, by go_num, by rw [← HN.out], HKr.out.trans hk6 (fun _ _ h => h)⟩
                case measure => simp [intOf]; omega
            | true =>
              have z2 : (str (pieceG true a i)).size ≤ 31 := by rw [str_size]; unfold pieceG; rw [if_pos rfl]; exact dec_len _
              generalize str (tgtG gf true a i) = sx at *
              by_cases h0 : i = 0
              · subst h0
                have hpc : str (pieceG true a 0) = str (decF a.a) := rfl
                rw [hpc] at HN z2
                have HD := Lib.hid (fun w => dec_c a.a HA.out.ka.1 HA.out.ka.2 w)
                generalize str (decF a.a) = sd at *
                go_wp2_with (first
                  | (go_at_call 40; go_loud (refine Rets.use (HD.out _) ?_); rintro _ w8 ⟨rfl, hk8⟩)
                  | ((with_reducible refine at_ 45 rfl ?_); go_must (refine step_lit rfl 89 _ 2 rfl [.int .i64 a.a, .int .i64 a.b] rfl rfl (by decide) 3 _ 1 Try.underlying89 row2_int (by decide) (by decide) (by intro v hv; simp only [List.mem_cons, List.not_mem_nil, or_false] at hv; rcases hv with rfl | rfl <;> rfl) ?_); intro w7 hb7 hk7 hs7; have n0 : w7.cell? ⟨w6.heap.size, 0, none⟩ = some (.int .i64 a.a) := (cell_of_row w7 _ 0 _ _ _ hb7).trans rfl; have n1 : w7.cell? ⟨w6.heap.size, 1, none⟩ = some (.int .i64 a.b) := (cell_of_row w7 _ 1 _ _ _ hb7).trans rfl)
                  | ((with_reducible refine at_ 35 rfl ?_); go_must (refine step_lit rfl 88 _ 2 rfl [.string (str a.name), .string (str a.spec)] rfl rfl (by decide) 9 _ 1 Try.underlying88 row2_str (by decide) (by decide) (by intro v hv; simp only [List.mem_cons, List.not_mem_nil, or_false] at hv; rcases hv with rfl | rfl <;> rfl) ?_); intro w6 hb6 hk6 hs6; have s0 : w6.cell? ⟨wr.heap.size, 0, none⟩ = some (.string (str a.name)) := (cell_of_row w6 _ 0 _ _ _ hb6).trans rfl; have s1 : w6.cell? ⟨wr.heap.size, 1, none⟩ = some (.string (str a.spec)) := (cell_of_row w6 _ 1 _ _ _ hb6).trans rfl; have f2 := hk6.cell f2 (fun h => h); have a4 := hk6.cell a4 (fun h => h); have a5 := hk6.cell a5 (fun h => h); clear hs6))
                go_roundw
                case rel => exact ⟨_, hig, by go_num, by rw [← HN.out], ((HKr.out.trans hk6 (fun _ _ h => h)).trans hk7 (fun _ _ h => h)).trans hk8 (fun _ _ h => h)⟩
                case measure => simp [intOf]; omega
              · obtain rfl : i = 1 := by omega
                have hpc : str (pieceG true a 1) = str (decF a.b) := rfl
                rw [hpc] at HN z2
                have HD := Lib.hid (fun w => dec_c a.b HA.out.kb.1 HA.out.kb.2 w)
                generalize str (decF a.b) = sd at *
                go_wp2_with (first
                  | (go_at_call 40; go_loud (refine Rets.use (HD.out _) ?_); rintro _ w8 ⟨rfl, hk8⟩)
                  | ((with_reducible refine at_ 45 rfl ?_); go_must (refine step_lit rfl 89 _ 2 rfl [.int .i64 a.a, .int .i64 a.b] rfl rfl (by decide) 3 _ 1 Try.underlying89 row2_int (by decide) (by decide) (by intro v hv; simp only [List.mem_cons, List.not_mem_nil, or_false] at hv; rcases hv with rfl | rfl <;> rfl) ?_); intro w7 hb7 hk7 hs7; have n0 : w7.cell? ⟨w6.heap.size, 0, none⟩ = some (.int .i64 a.a) := (cell_of_row w7 _ 0 _ _ _ hb7).trans rfl; have n1 : w7.cell? ⟨w6.heap.size, 1, none⟩ = some (.int .i64 a.b) := (cell_of_row w7 _ 1 _ _ _ hb7).trans rfl)
                  | ((with_reducible refine at_ 35 rfl ?_); go_must (refine step_lit rfl 88 _ 2 rfl [.string (str a.name), .string (str a.spec)] rfl rfl (by decide) 9 _ 1 Try.underlying88 row2_str (by decide) (by decide) (by intro v hv; simp only [List.mem_cons, List.not_mem_nil, or_false] at hv; rcases hv with rfl | rfl <;> rfl) ?_); intro w6 hb6 hk6 hs6; have s0 : w6.cell? ⟨wr.heap.size, 0, none⟩ = some (.string (str a.name)) := (cell_of_row w6 _ 0 _ _ _ hb6).trans rfl; have s1 : w6.cell? ⟨wr.heap.size, 1, none⟩ = some (.string (str a.spec)) := (cell_of_row w6 _ 1 _ _ _ hb6).trans rfl; have f2 := hk6.cell f2 (fun h => h); have a4 := hk6.cell a4 (fun h => h); have a5 := hk6.cell a5 (fun h => h); clear hs6))
                go_roundw
                case rel => exact ⟨_, hig, by go_num, by rw [← HN.out], ((HKr.out.trans hk6 (fun _ _ h => h)).trans hk7 (fun _ _ h => h)).trans hk8 (fun _ _ h => h)⟩
                case measure => simp [intOf]; omega
          · obtain rfl : i = gp := by omega
            have H1r := Lib.hid (HKr.out.heap H15.out (fun h => h))
            have HKw := Lib.hid (HK5.out.trans HKr.out (fun _ _ h => h))
            have hwr : w.heap.size + 2 ≤ wr.heap.size := by have := lt_of HBr.out; omega
            have f3 : wr.cell? ⟨BF, 3, none⟩ = some (.string gm) := (cell_of_row wr _ 3 _ _ _ HBr.out).trans rfl
            have a3 : wr.cell? ⟨w.heap.size, 3, none⟩ = some (.slice A a.body.length c) := (cell_of_row wr _ 3 _ _ _ H0r.out).trans rfl
            have a1 : wr.cell? ⟨w.heap.size, 1, none⟩ = some (.string (str a.name)) := (cell_of_row wr _ 1 _ _ _ H0r.out).trans rfl
            have a2 : wr.cell? ⟨w.heap.size, 2, none⟩ = some (.string (str a.spec)) := (cell_of_row wr _ 2 _ _ _ H0r.out).trans rfl
            have a4 : wr.cell? ⟨w.heap.size, 4, none⟩ = some (.int .i64 a.a) := (cell_of_row wr _ 4 _ _ _ H0r.out).trans rfl
            have a5 : wr.cell? ⟨w.heap.size, 5, none⟩ = some (.int .i64 a.b) := (cell_of_row wr _ 5 _ _ _ H0r.out).trans rfl
            have HPP := Lib.hid (show printP a = if (parseP (reqG ⟨gf, i, gn, gm, gk⟩ a)).2 = 200 ∧ (parseP (reqG ⟨gf, i, gn, gm, gk⟩ a)).1 = a then (reqG ⟨gf, i, gn, gm, gk⟩ a, 0) else (zeroR, 2) by unfold printP; rw [HGk.out])
            have HKS := Lib.hid (kind_same HGk.out)
            have hxt : (reqG ⟨gf, i, gn, gm, gk⟩ a).target.length ≤ 100 := by have := tgt_len (first := gf) hf9 gn a hl1 hl2 i; show (tgtG gf gn a i).length ≤ 100; omega
            have hxo : (reqG ⟨gf, i, gn, gm, gk⟩ a).Ok := ⟨bytesOf_byte _, tgt_byte gf gn HA.out i, IsB.nil, by unfold reqG; simp only; split; exact HA.out.body; exact IsB.nil⟩
            have hxm : str (reqG ⟨gf, i, gn, gm, gk⟩ a).method = gm := (str_of gm).symm
            have hxs : (reqG ⟨gf, i, gn, gm, gk⟩ a).target = tgtG gf gn a i := rfl
            have hxk : (reqG ⟨gf, i, gn, gm, gk⟩ a).token = [] := rfl
            have hxb : (reqG ⟨gf, i, gn, gm, gk⟩ a).body = if gm.toList == [80, 85, 84] then a.body else [] := rfl
            have hxl : (reqG ⟨gf, i, gn, gm, gk⟩ a).body.length ≤ 4200 := by rw [hxb]; split; exact hl3; simp
            have HX := Lib.hid (fun (w : World) (ok : Nat → Prop) u h => parse23_c (w := w) (ok := ok) (reqG ⟨gf, i, gn, gm, gk⟩ a) hxo (by omega) (by omega) u h)
            obtain ⟨hqo, hql⟩ := parseP_ok hxo
            have HQ := Lib.hid hqo
            have HQL := Lib.hid (show (parseP (reqG ⟨gf, i, gn, gm, gk⟩ a)).1.body.length ≤ 4200 by omega)
            have HXV := Lib.hid (fun u => show reqV (reqG ⟨gf, i, gn, gm, gk⟩ a) u = .agg #[.string gm, .string (str (tgtG gf gn a i)), .string ⟨#[]⟩, u] by unfold reqV; rw [hxm, hxs, hxk]; rfl)
            clear hxt hxo hxm hxs hxk hxl hqo hql HGk H0r HBr H05 H15 HB5 HK5 HKr
            generalize reqG ⟨gf, i, gn, gm, gk⟩ a = X at *
            generalize parseP X = pr at *
            obtain ⟨q, code⟩ := pr
            simp only at HPP HKS HQ HQL
            generalize str (tgtG gf gn a i) = sx at *
            cases hput : gm.toList == [80, 85, 84] with
            | true =>
              rw [hput, if_pos rfl] at hxb
              have n1 := str_eq HQ.out.name HA.out.name
              have n2 := str_eq HQ.out.spec HA.out.spec
              have HEq := Lib.hid (fun (w : World) (ok ok2 : Nat → Prop) v u h1 h2 => equal_c (w := w) (ok := ok) (ok2 := ok2) v u q.body a.body HQ.out.body HA.out.body h1 h2)
              obtain ⟨qk, qn, qs, qb, qaa, qbb⟩ := q
              simp only at HKS HQL n1 n2 HEq
              by_cases hc : code = 200
              · subst hc
                have hcb : ((200 : Int) != 200) = false := rfl
                have hkind : qk = a.kind := HKS.out rfl
                by_cases d1 : qn = a.name
                · rw [decide_eq_true d1] at n1
                  by_cases d2 : qs = a.spec
                  · rw [decide_eq_true d2] at n2
                    by_cases d3 : qaa = a.a
                    · have b3 : (qaa != a.a) = false := by simpa using d3
                      by_cases d4 : qbb = a.b
                      · have b4 : (qbb != a.b) = false := by simpa using d4
                        by_cases d5 : qb = a.body
                        · have HF := Lib.hid (show printP a = (X, 0) by rw [HPP.out, if_pos ⟨rfl, by obtain ⟨_, _, _, _, _, _⟩ := a; simp only at *; subst hkind d1 d2 d3 d4 d5; rfl⟩])
                          rw [decide_eq_true d5] at HEq
                          clear d1 d2 d3 d4 d5 HPP HKS hkind
                          go_wp2_with (first
                            | (go_at_call 41; go_loud (refine Rets.use (HEq.out w10 _ _ _ _ hR10q hR10a) ?_); rintro _ _ ⟨rfl, rfl⟩)
                            | ((with_reducible refine at_ 110 rfl ?_); go_must (refine step_load rfl _ _ rfl wr.heap.size 0 [.string gm, .string sx, .string ⟨#[]⟩, .slice Ab a.body.length cb] _ _ (0, 0) _ rfl hbx10 rfl Try.underlying26 rfl info_req ?_))
                            | ((with_reducible refine at_store 26 (.tmp 2) (.tmp 110) rfl ?_); go_must (refine step_store rfl _ _ _ rfl (w.heap.size + 1) 0 [.string gm, .string sx, .string ⟨#[]⟩, .slice Ab a.body.length cb] _ _ rfl rfl hb1z (by simp) info_req (by simp [Value.oneCell']) ?_); intro w12 hb12 hk12 hs12)
                            | ((with_reducible refine at_store 66 (.tmp 10) (.tmp 69) rfl ?_); go_must (refine step_store rfl _ _ _ rfl w8.heap.size 0 (askC ⟨qk, qn, qs, qb, qaa, qbb⟩ (.slice A8 qb.length c8)) _ _ rfl rfl hb9 (by simp [askC_len]) (info_askC _ _) (by simp [askC, Value.oneCell']) ?_); intro w10 hb10 hk10 hs10; rw [put_whole (by rfl)] at hb10; have K910 := hk9.trans hk10 (fun k hk h => by omega); have K710 := hk8.trans K910 (fun _ _ h => h); have K10 := KX.trans K710 (fun _ _ h => h); have hbx10 := K710.heap hbX (fun h => h); have hO10x := hOX.kept K710 (fun _ _ h => h); have hb1z := K10.heap H1r.out (fun h => h); have hR10q := hO8.rd.kept K910 (fun _ _ h => h); have hR10a := HR.out.kept (HKw.out.trans K10 (fun _ _ h => h)) (fun _ _ h => h); have a1 := K10.cell a1 (fun h => h); have a2 := K10.cell a2 (fun h => h); have a3 := K10.cell a3 (fun h => h); have a4 := K10.cell a4 (fun h => h); have a5 := K10.cell a5 (fun h => h); have q1 : w10.cell? ⟨w8.heap.size, 1, none⟩ = some (.string (str qn)) := (cell_of_row w10 _ 1 _ _ _ hb10).trans rfl; have q2 : w10.cell? ⟨w8.heap.size, 2, none⟩ = some (.string (str qs)) := (cell_of_row w10 _ 2 _ _ _ hb10).trans rfl; have q3 : w10.cell? ⟨w8.heap.size, 3, none⟩ = some (.slice A8 qb.length c8) := (cell_of_row w10 _ 3 _ _ _ hb10).trans rfl; have q4 : w10.cell? ⟨w8.heap.size, 4, none⟩ = some (.int .i64 qaa) := (cell_of_row w10 _ 4 _ _ _ hb10).trans rfl; have q5 : w10.cell? ⟨w8.heap.size, 5, none⟩ = some (.int .i64 qbb) := (cell_of_row w10 _ 5 _ _ _ hb10).trans rfl)
                            | ((with_reducible refine at_ 10 rfl ?_); go_must (refine step_alloc rfl _ rfl _ (askC zeroA (.slice none 0 0)) row_ask rfl ?_); intro w9 hb9 hk9 hs9)
                            | (go_at_call 32; go_loud (rw [← HXV.out]); go_loud (refine Rets.use (HX.out _ _ _ hOX.rd) ?_); rintro _ w8 ⟨hk8, u8, rfl, hO8⟩; obtain ⟨A8, c8, rfl, _⟩ := hO8.slice)
                            | ((with_reducible refine at_ 67 rfl ?_); go_must (refine step_load rfl _ _ rfl wr.heap.size 0 [.string gm, .string sx, .string ⟨#[]⟩, .slice Ab a.body.length cb] _ _ (0, 0) _ rfl hbX rfl Try.underlying26 rfl info_req ?_))
                            | ((with_reducible refine at_store 22 (.tmp 65) (.tmp 64) rfl ?_); go_must (refine step_store1 rfl _ _ _ rfl wr.heap.size 3 (.slice Ab a.body.length cb) _ _ rfl rfl rfl hb71 (by simp) info_bytesR ?_); intro w72 hbX hk72 hs72; have KX := K71.trans hk72 (fun k hk h => by omega); have hOX : OwnRow w72 (fun k => wr.heap.size < k) 5 1 (.slice Ab a.body.length cb) X.body.length (Disk.bytes8 X.body) := (by rw [hxb]; exact (hO71.kept hk72 (fun k h h' => by have := hs7; have := hs6; omega)).mono (fun k hk h => by have := hs7; have := hs6; omega)))
                            | (go_at_call 44; go_loud (refine Rets.use (clone_c _ a.body (HR.out.kept (HKw.out.trans K7 (fun _ _ h => h)) (fun _ _ h => h)) (by omega)) ?_); rintro v71 w71 ⟨hO71, hk71⟩; obtain ⟨Ab, cb, rfl, _⟩ := hO71.slice; have hb71 := hk71.heap hb7 (fun h => h); have K71 := K7.trans hk71 (fun _ _ h => h))
                            | ((with_reducible refine at_store 26 (.tmp 9) (.tmp 58) rfl ?_); go_must (refine step_store rfl _ _ _ rfl wr.heap.size 0 [.string gm, .string sx, .string ⟨#[]⟩, .slice none 0 0] _ _ rfl rfl hb6 (by simp) info_req (by simp [Value.oneCell']) ?_); intro w7 hb7 hk7 hs7; rw [put_whole (by rfl)] at hb7; have K7 := hk6.trans hk7 (fun k hk h => by omega); have f3w := K7.cell f3 (fun h => h); have a3w := K7.cell a3 (fun h => h))
                            | ((with_reducible refine at_ 58 rfl ?_); go_must (refine step_build rfl 26 _ rfl [(0, .string gm), (1, .string sx)] rfl _ (build_req gm sx) ?_))
                            | ((with_reducible refine at_ 9 rfl ?_); go_must (refine step_alloc rfl _ rfl _ [.string ⟨#[]⟩, .string ⟨#[]⟩, .string ⟨#[]⟩, .slice none 0 0] row_req rfl ?_); intro w6 hb6 hk6 hs6))
                          rw [put_whole (by rfl)] at hb12
                          refine bodyPost_ret (ret_cell_tmp rfl [.string gm, .string sx, .string ⟨#[]⟩, .slice Ab a.body.length cb] _ rfl hb12 Try.underlying26 rfl info_req) rfl ?_
                          rw [HF.out]
                          refine ⟨(HKw.out.trans K10 (fun _ _ h => h)).trans hk12 (fun _ hk h => by omega), .slice Ab a.body.length cb, by rw [HXV.out] <;> rfl, ?_⟩
                          exact (hO10x.kept hk12 (fun k h h' => by have := HKw.out.size; omega)).mono (fun k hk h => by have := HKw.out.size; omega)
                        · have HF := Lib.hid (show printP a = (zeroR, 2) by rw [HPP.out, if_neg (fun h => d5 (by rw [← h.2]))])
                          rw [decide_eq_false d5] at HEq
                          clear d1 d2 d3 d4 d5 HPP HKS hkind
                          go_wp2_with (first
                            | (go_at_call 41; go_loud (refine Rets.use (HEq.out w10 _ _ _ _ hR10q hR10a) ?_); rintro _ _ ⟨rfl, rfl⟩)
                            | ((with_reducible refine at_ 109 rfl ?_); go_must (refine step_build rfl 26 _ rfl [] rfl _ build_req0 ?_))
                            | ((with_reducible refine at_store 26 (.tmp 2) (.tmp 109) rfl ?_); go_must (refine step_store rfl _ _ _ rfl (w.heap.size + 1) 0 [.string ⟨#[]⟩, .string ⟨#[]⟩, .string ⟨#[]⟩, .slice none 0 0] _ _ rfl rfl hb1z (by simp) info_req (by simp [Value.oneCell']) ?_); intro w12 hb12 hk12 hs12)
                            | ((with_reducible refine at_store 66 (.tmp 10) (.tmp 69) rfl ?_); go_must (refine step_store rfl _ _ _ rfl w8.heap.size 0 (askC ⟨qk, qn, qs, qb, qaa, qbb⟩ (.slice A8 qb.length c8)) _ _ rfl rfl hb9 (by simp [askC_len]) (info_askC _ _) (by simp [askC, Value.oneCell']) ?_); intro w10 hb10 hk10 hs10; rw [put_whole (by rfl)] at hb10; have K910 := hk9.trans hk10 (fun k hk h => by omega); have K710 := hk8.trans K910 (fun _ _ h => h); have K10 := KX.trans K710 (fun _ _ h => h); have hbx10 := K710.heap hbX (fun h => h); have hO10x := hOX.kept K710 (fun _ _ h => h); have hb1z := K10.heap H1r.out (fun h => h); have hR10q := hO8.rd.kept K910 (fun _ _ h => h); have hR10a := HR.out.kept (HKw.out.trans K10 (fun _ _ h => h)) (fun _ _ h => h); have a1 := K10.cell a1 (fun h => h); have a2 := K10.cell a2 (fun h => h); have a3 := K10.cell a3 (fun h => h); have a4 := K10.cell a4 (fun h => h); have a5 := K10.cell a5 (fun h => h); have q1 : w10.cell? ⟨w8.heap.size, 1, none⟩ = some (.string (str qn)) := (cell_of_row w10 _ 1 _ _ _ hb10).trans rfl; have q2 : w10.cell? ⟨w8.heap.size, 2, none⟩ = some (.string (str qs)) := (cell_of_row w10 _ 2 _ _ _ hb10).trans rfl; have q3 : w10.cell? ⟨w8.heap.size, 3, none⟩ = some (.slice A8 qb.length c8) := (cell_of_row w10 _ 3 _ _ _ hb10).trans rfl; have q4 : w10.cell? ⟨w8.heap.size, 4, none⟩ = some (.int .i64 qaa) := (cell_of_row w10 _ 4 _ _ _ hb10).trans rfl; have q5 : w10.cell? ⟨w8.heap.size, 5, none⟩ = some (.int .i64 qbb) := (cell_of_row w10 _ 5 _ _ _ hb10).trans rfl)
                            | ((with_reducible refine at_ 10 rfl ?_); go_must (refine step_alloc rfl _ rfl _ (askC zeroA (.slice none 0 0)) row_ask rfl ?_); intro w9 hb9 hk9 hs9)
                            | (go_at_call 32; go_loud (rw [← HXV.out]); go_loud (refine Rets.use (HX.out _ _ _ hOX.rd) ?_); rintro _ w8 ⟨hk8, u8, rfl, hO8⟩; obtain ⟨A8, c8, rfl, _⟩ := hO8.slice)
                            | ((with_reducible refine at_ 67 rfl ?_); go_must (refine step_load rfl _ _ rfl wr.heap.size 0 [.string gm, .string sx, .string ⟨#[]⟩, .slice Ab a.body.length cb] _ _ (0, 0) _ rfl hbX rfl Try.underlying26 rfl info_req ?_))
                            | ((with_reducible refine at_store 22 (.tmp 65) (.tmp 64) rfl ?_); go_must (refine step_store1 rfl _ _ _ rfl wr.heap.size 3 (.slice Ab a.body.length cb) _ _ rfl rfl rfl hb71 (by simp) info_bytesR ?_); intro w72 hbX hk72 hs72; have KX := K71.trans hk72 (fun k hk h => by omega); have hOX : OwnRow w72 (fun k => wr.heap.size < k) 5 1 (.slice Ab a.body.length cb) X.body.length (Disk.bytes8 X.body) := (by rw [hxb]; exact (hO71.kept hk72 (fun k h h' => by have := hs7; have := hs6; omega)).mono (fun k hk h => by have := hs7; have := hs6; omega)))
                            | (go_at_call 44; go_loud (refine Rets.use (clone_c _ a.body (HR.out.kept (HKw.out.trans K7 (fun _ _ h => h)) (fun _ _ h => h)) (by omega)) ?_); rintro v71 w71 ⟨hO71, hk71⟩; obtain ⟨Ab, cb, rfl, _⟩ := hO71.slice; have hb71 := hk71.heap hb7 (fun h => h); have K71 := K7.trans hk71 (fun _ _ h => h))
                            | ((with_reducible refine at_store 26 (.tmp 9) (.tmp 58) rfl ?_); go_must (refine step_store rfl _ _ _ rfl wr.heap.size 0 [.string gm, .string sx, .string ⟨#[]⟩, .slice none 0 0] _ _ rfl rfl hb6 (by simp) info_req (by simp [Value.oneCell']) ?_); intro w7 hb7 hk7 hs7; rw [put_whole (by rfl)] at hb7; have K7 := hk6.trans hk7 (fun k hk h => by omega); have f3w := K7.cell f3 (fun h => h); have a3w := K7.cell a3 (fun h => h))
                            | ((with_reducible refine at_ 58 rfl ?_); go_must (refine step_build rfl 26 _ rfl [(0, .string gm), (1, .string sx)] rfl _ (build_req gm sx) ?_))
                            | ((with_reducible refine at_ 9 rfl ?_); go_must (refine step_alloc rfl _ rfl _ [.string ⟨#[]⟩, .string ⟨#[]⟩, .string ⟨#[]⟩, .slice none 0 0] row_req rfl ?_); intro w6 hb6 hk6 hs6))
                          rw [put_whole (by rfl)] at hb12
                          refine bodyPost_ret (ret_cell_tmp rfl [.string ⟨#[]⟩, .string ⟨#[]⟩, .string ⟨#[]⟩, .slice none 0 0] _ rfl hb12 Try.underlying26 rfl info_req) rfl ?_
                          rw [HF.out]
                          exact ⟨(HKw.out.trans K10 (fun _ _ h => h)).trans hk12 (fun _ hk h => by omega), _, rfl, OwnRow.nil _ _ _ _⟩
                      · have b4 : (qbb != a.b) = true := by simpa using d4
                        have HF := Lib.hid (show printP a = (zeroR, 2) by rw [HPP.out, if_neg (fun h => d4 (by rw [← h.2]))])
                        clear HPP HKS HEq
                        try clear hkind
                        try clear d4
                        try clear d3
                        try clear d2
                        try clear d1
                        go_wp2_with (first
                          | ((with_reducible refine at_ 109 rfl ?_); go_must (refine step_build rfl 26 _ rfl [] rfl _ build_req0 ?_))
                          | ((with_reducible refine at_store 26 (.tmp 2) (.tmp 109) rfl ?_); go_must (refine step_store rfl _ _ _ rfl (w.heap.size + 1) 0 [.string ⟨#[]⟩, .string ⟨#[]⟩, .string ⟨#[]⟩, .slice none 0 0] _ _ rfl rfl hb1z (by simp) info_req (by simp [Value.oneCell']) ?_); intro w12 hb12 hk12 hs12)
                          | ((with_reducible refine at_store 66 (.tmp 10) (.tmp 69) rfl ?_); go_must (refine step_store rfl _ _ _ rfl w8.heap.size 0 (askC ⟨qk, qn, qs, qb, qaa, qbb⟩ (.slice A8 qb.length c8)) _ _ rfl rfl hb9 (by simp [askC_len]) (info_askC _ _) (by simp [askC, Value.oneCell']) ?_); intro w10 hb10 hk10 hs10; rw [put_whole (by rfl)] at hb10; have K910 := hk9.trans hk10 (fun k hk h => by omega); have K710 := hk8.trans K910 (fun _ _ h => h); have K10 := KX.trans K710 (fun _ _ h => h); have hbx10 := K710.heap hbX (fun h => h); have hO10x := hOX.kept K710 (fun _ _ h => h); have hb1z := K10.heap H1r.out (fun h => h); have hR10q := hO8.rd.kept K910 (fun _ _ h => h); have hR10a := HR.out.kept (HKw.out.trans K10 (fun _ _ h => h)) (fun _ _ h => h); have a1 := K10.cell a1 (fun h => h); have a2 := K10.cell a2 (fun h => h); have a3 := K10.cell a3 (fun h => h); have a4 := K10.cell a4 (fun h => h); have a5 := K10.cell a5 (fun h => h); have q1 : w10.cell? ⟨w8.heap.size, 1, none⟩ = some (.string (str qn)) := (cell_of_row w10 _ 1 _ _ _ hb10).trans rfl; have q2 : w10.cell? ⟨w8.heap.size, 2, none⟩ = some (.string (str qs)) := (cell_of_row w10 _ 2 _ _ _ hb10).trans rfl; have q3 : w10.cell? ⟨w8.heap.size, 3, none⟩ = some (.slice A8 qb.length c8) := (cell_of_row w10 _ 3 _ _ _ hb10).trans rfl; have q4 : w10.cell? ⟨w8.heap.size, 4, none⟩ = some (.int .i64 qaa) := (cell_of_row w10 _ 4 _ _ _ hb10).trans rfl; have q5 : w10.cell? ⟨w8.heap.size, 5, none⟩ = some (.int .i64 qbb) := (cell_of_row w10 _ 5 _ _ _ hb10).trans rfl)
                          | ((with_reducible refine at_ 10 rfl ?_); go_must (refine step_alloc rfl _ rfl _ (askC zeroA (.slice none 0 0)) row_ask rfl ?_); intro w9 hb9 hk9 hs9)
                          | (go_at_call 32; go_loud (rw [← HXV.out]); go_loud (refine Rets.use (HX.out _ _ _ hOX.rd) ?_); rintro _ w8 ⟨hk8, u8, rfl, hO8⟩; obtain ⟨A8, c8, rfl, _⟩ := hO8.slice)
                          | ((with_reducible refine at_ 67 rfl ?_); go_must (refine step_load rfl _ _ rfl wr.heap.size 0 [.string gm, .string sx, .string ⟨#[]⟩, .slice Ab a.body.length cb] _ _ (0, 0) _ rfl hbX rfl Try.underlying26 rfl info_req ?_))
                          | ((with_reducible refine at_store 22 (.tmp 65) (.tmp 64) rfl ?_); go_must (refine step_store1 rfl _ _ _ rfl wr.heap.size 3 (.slice Ab a.body.length cb) _ _ rfl rfl rfl hb71 (by simp) info_bytesR ?_); intro w72 hbX hk72 hs72; have KX := K71.trans hk72 (fun k hk h => by omega); have hOX : OwnRow w72 (fun k => wr.heap.size < k) 5 1 (.slice Ab a.body.length cb) X.body.length (Disk.bytes8 X.body) := (by rw [hxb]; exact (hO71.kept hk72 (fun k h h' => by have := hs7; have := hs6; omega)).mono (fun k hk h => by have := hs7; have := hs6; omega)))
                          | (go_at_call 44; go_loud (refine Rets.use (clone_c _ a.body (HR.out.kept (HKw.out.trans K7 (fun _ _ h => h)) (fun _ _ h => h)) (by omega)) ?_); rintro v71 w71 ⟨hO71, hk71⟩; obtain ⟨Ab, cb, rfl, _⟩ := hO71.slice; have hb71 := hk71.heap hb7 (fun h => h); have K71 := K7.trans hk71 (fun _ _ h => h))
                          | ((with_reducible refine at_store 26 (.tmp 9) (.tmp 58) rfl ?_); go_must (refine step_store rfl _ _ _ rfl wr.heap.size 0 [.string gm, .string sx, .string ⟨#[]⟩, .slice none 0 0] _ _ rfl rfl hb6 (by simp) info_req (by simp [Value.oneCell']) ?_); intro w7 hb7 hk7 hs7; rw [put_whole (by rfl)] at hb7; have K7 := hk6.trans hk7 (fun k hk h => by omega); have f3w := K7.cell f3 (fun h => h); have a3w := K7.cell a3 (fun h => h))
                          | ((with_reducible refine at_ 58 rfl ?_); go_must (refine step_build rfl 26 _ rfl [(0, .string gm), (1, .string sx)] rfl _ (build_req gm sx) ?_))
                          | ((with_reducible refine at_ 9 rfl ?_); go_must (refine step_alloc rfl _ rfl _ [.string ⟨#[]⟩, .string ⟨#[]⟩, .string ⟨#[]⟩, .slice none 0 0] row_req rfl ?_); intro w6 hb6 hk6 hs6))
                        rw [put_whole (by rfl)] at hb12
                        refine bodyPost_ret (ret_cell_tmp rfl [.string ⟨#[]⟩, .string ⟨#[]⟩, .string ⟨#[]⟩, .slice none 0 0] _ rfl hb12 Try.underlying26 rfl info_req) rfl ?_
                        rw [HF.out]
                        exact ⟨(HKw.out.trans K10 (fun _ _ h => h)).trans hk12 (fun _ hk h => by omega), _, rfl, OwnRow.nil _ _ _ _⟩
                    · have b3 : (qaa != a.a) = true := by simpa using d3
                      have HF := Lib.hid (show printP a = (zeroR, 2) by rw [HPP.out, if_neg (fun h => d3 (by rw [← h.2]))])
                      clear HPP HKS HEq
                      try clear hkind
                      try clear d4
                      try clear d3
                      try clear d2
                      try clear d1
                      go_wp2_with (first
                        | ((with_reducible refine at_ 109 rfl ?_); go_must (refine step_build rfl 26 _ rfl [] rfl _ build_req0 ?_))
                        | ((with_reducible refine at_store 26 (.tmp 2) (.tmp 109) rfl ?_); go_must (refine step_store rfl _ _ _ rfl (w.heap.size + 1) 0 [.string ⟨#[]⟩, .string ⟨#[]⟩, .string ⟨#[]⟩, .slice none 0 0] _ _ rfl rfl hb1z (by simp) info_req (by simp [Value.oneCell']) ?_); intro w12 hb12 hk12 hs12)
                        | ((with_reducible refine at_store 66 (.tmp 10) (.tmp 69) rfl ?_); go_must (refine step_store rfl _ _ _ rfl w8.heap.size 0 (askC ⟨qk, qn, qs, qb, qaa, qbb⟩ (.slice A8 qb.length c8)) _ _ rfl rfl hb9 (by simp [askC_len]) (info_askC _ _) (by simp [askC, Value.oneCell']) ?_); intro w10 hb10 hk10 hs10; rw [put_whole (by rfl)] at hb10; have K910 := hk9.trans hk10 (fun k hk h => by omega); have K710 := hk8.trans K910 (fun _ _ h => h); have K10 := KX.trans K710 (fun _ _ h => h); have hbx10 := K710.heap hbX (fun h => h); have hO10x := hOX.kept K710 (fun _ _ h => h); have hb1z := K10.heap H1r.out (fun h => h); have hR10q := hO8.rd.kept K910 (fun _ _ h => h); have hR10a := HR.out.kept (HKw.out.trans K10 (fun _ _ h => h)) (fun _ _ h => h); have a1 := K10.cell a1 (fun h => h); have a2 := K10.cell a2 (fun h => h); have a3 := K10.cell a3 (fun h => h); have a4 := K10.cell a4 (fun h => h); have a5 := K10.cell a5 (fun h => h); have q1 : w10.cell? ⟨w8.heap.size, 1, none⟩ = some (.string (str qn)) := (cell_of_row w10 _ 1 _ _ _ hb10).trans rfl; have q2 : w10.cell? ⟨w8.heap.size, 2, none⟩ = some (.string (str qs)) := (cell_of_row w10 _ 2 _ _ _ hb10).trans rfl; have q3 : w10.cell? ⟨w8.heap.size, 3, none⟩ = some (.slice A8 qb.length c8) := (cell_of_row w10 _ 3 _ _ _ hb10).trans rfl; have q4 : w10.cell? ⟨w8.heap.size, 4, none⟩ = some (.int .i64 qaa) := (cell_of_row w10 _ 4 _ _ _ hb10).trans rfl; have q5 : w10.cell? ⟨w8.heap.size, 5, none⟩ = some (.int .i64 qbb) := (cell_of_row w10 _ 5 _ _ _ hb10).trans rfl)
                        | ((with_reducible refine at_ 10 rfl ?_); go_must (refine step_alloc rfl _ rfl _ (askC zeroA (.slice none 0 0)) row_ask rfl ?_); intro w9 hb9 hk9 hs9)
                        | (go_at_call 32; go_loud (rw [← HXV.out]); go_loud (refine Rets.use (HX.out _ _ _ hOX.rd) ?_); rintro _ w8 ⟨hk8, u8, rfl, hO8⟩; obtain ⟨A8, c8, rfl, _⟩ := hO8.slice)
                        | ((with_reducible refine at_ 67 rfl ?_); go_must (refine step_load rfl _ _ rfl wr.heap.size 0 [.string gm, .string sx, .string ⟨#[]⟩, .slice Ab a.body.length cb] _ _ (0, 0) _ rfl hbX rfl Try.underlying26 rfl info_req ?_))
                        | ((with_reducible refine at_store 22 (.tmp 65) (.tmp 64) rfl ?_); go_must (refine step_store1 rfl _ _ _ rfl wr.heap.size 3 (.slice Ab a.body.length cb) _ _ rfl rfl rfl hb71 (by simp) info_bytesR ?_); intro w72 hbX hk72 hs72; have KX := K71.trans hk72 (fun k hk h => by omega); have hOX : OwnRow w72 (fun k => wr.heap.size < k) 5 1 (.slice Ab a.body.length cb) X.body.length (Disk.bytes8 X.body) := (by rw [hxb]; exact (hO71.kept hk72 (fun k h h' => by have := hs7; have := hs6; omega)).mono (fun k hk h => by have := hs7; have := hs6; omega)))
                        | (go_at_call 44; go_loud (refine Rets.use (clone_c _ a.body (HR.out.kept (HKw.out.trans K7 (fun _ _ h => h)) (fun _ _ h => h)) (by omega)) ?_); rintro v71 w71 ⟨hO71, hk71⟩; obtain ⟨Ab, cb, rfl, _⟩ := hO71.slice; have hb71 := hk71.heap hb7 (fun h => h); have K71 := K7.trans hk71 (fun _ _ h => h))
                        | ((with_reducible refine at_store 26 (.tmp 9) (.tmp 58) rfl ?_); go_must (refine step_store rfl _ _ _ rfl wr.heap.size 0 [.string gm, .string sx, .string ⟨#[]⟩, .slice none 0 0] _ _ rfl rfl hb6 (by simp) info_req (by simp [Value.oneCell']) ?_); intro w7 hb7 hk7 hs7; rw [put_whole (by rfl)] at hb7; have K7 := hk6.trans hk7 (fun k hk h => by omega); have f3w := K7.cell f3 (fun h => h); have a3w := K7.cell a3 (fun h => h))
                        | ((with_reducible refine at_ 58 rfl ?_); go_must (refine step_build rfl 26 _ rfl [(0, .string gm), (1, .string sx)] rfl _ (build_req gm sx) ?_))
                        | ((with_reducible refine at_ 9 rfl ?_); go_must (refine step_alloc rfl _ rfl _ [.string ⟨#[]⟩, .string ⟨#[]⟩, .string ⟨#[]⟩, .slice none 0 0] row_req rfl ?_); intro w6 hb6 hk6 hs6))
                      rw [put_whole (by rfl)] at hb12
                      refine bodyPost_ret (ret_cell_tmp rfl [.string ⟨#[]⟩, .string ⟨#[]⟩, .string ⟨#[]⟩, .slice none 0 0] _ rfl hb12 Try.underlying26 rfl info_req) rfl ?_
                      rw [HF.out]
                      exact ⟨(HKw.out.trans K10 (fun _ _ h => h)).trans hk12 (fun _ hk h => by omega), _, rfl, OwnRow.nil _ _ _ _⟩
                  · have HF := Lib.hid (show printP a = (zeroR, 2) by rw [HPP.out, if_neg (fun h => d2 (by rw [← h.2]))])
                    rw [decide_eq_false d2] at n2
                    clear HPP HKS HEq
                    try clear hkind
                    try clear d4
                    try clear d3
                    try clear d2
                    try clear d1
                    go_wp2_with (first
                      | ((with_reducible refine at_ 109 rfl ?_); go_must (refine step_build rfl 26 _ rfl [] rfl _ build_req0 ?_))
                      | ((with_reducible refine at_store 26 (.tmp 2) (.tmp 109) rfl ?_); go_must (refine step_store rfl _ _ _ rfl (w.heap.size + 1) 0 [.string ⟨#[]⟩, .string ⟨#[]⟩, .string ⟨#[]⟩, .slice none 0 0] _ _ rfl rfl hb1z (by simp) info_req (by simp [Value.oneCell']) ?_); intro w12 hb12 hk12 hs12)
                      | ((with_reducible refine at_store 66 (.tmp 10) (.tmp 69) rfl ?_); go_must (refine step_store rfl _ _ _ rfl w8.heap.size 0 (askC ⟨qk, qn, qs, qb, qaa, qbb⟩ (.slice A8 qb.length c8)) _ _ rfl rfl hb9 (by simp [askC_len]) (info_askC _ _) (by simp [askC, Value.oneCell']) ?_); intro w10 hb10 hk10 hs10; rw [put_whole (by rfl)] at hb10; have K910 := hk9.trans hk10 (fun k hk h => by omega); have K710 := hk8.trans K910 (fun _ _ h => h); have K10 := KX.trans K710 (fun _ _ h => h); have hbx10 := K710.heap hbX (fun h => h); have hO10x := hOX.kept K710 (fun _ _ h => h); have hb1z := K10.heap H1r.out (fun h => h); have hR10q := hO8.rd.kept K910 (fun _ _ h => h); have hR10a := HR.out.kept (HKw.out.trans K10 (fun _ _ h => h)) (fun _ _ h => h); have a1 := K10.cell a1 (fun h => h); have a2 := K10.cell a2 (fun h => h); have a3 := K10.cell a3 (fun h => h); have a4 := K10.cell a4 (fun h => h); have a5 := K10.cell a5 (fun h => h); have q1 : w10.cell? ⟨w8.heap.size, 1, none⟩ = some (.string (str qn)) := (cell_of_row w10 _ 1 _ _ _ hb10).trans rfl; have q2 : w10.cell? ⟨w8.heap.size, 2, none⟩ = some (.string (str qs)) := (cell_of_row w10 _ 2 _ _ _ hb10).trans rfl; have q3 : w10.cell? ⟨w8.heap.size, 3, none⟩ = some (.slice A8 qb.length c8) := (cell_of_row w10 _ 3 _ _ _ hb10).trans rfl; have q4 : w10.cell? ⟨w8.heap.size, 4, none⟩ = some (.int .i64 qaa) := (cell_of_row w10 _ 4 _ _ _ hb10).trans rfl; have q5 : w10.cell? ⟨w8.heap.size, 5, none⟩ = some (.int .i64 qbb) := (cell_of_row w10 _ 5 _ _ _ hb10).trans rfl)
                      | ((with_reducible refine at_ 10 rfl ?_); go_must (refine step_alloc rfl _ rfl _ (askC zeroA (.slice none 0 0)) row_ask rfl ?_); intro w9 hb9 hk9 hs9)
                      | (go_at_call 32; go_loud (rw [← HXV.out]); go_loud (refine Rets.use (HX.out _ _ _ hOX.rd) ?_); rintro _ w8 ⟨hk8, u8, rfl, hO8⟩; obtain ⟨A8, c8, rfl, _⟩ := hO8.slice)
                      | ((with_reducible refine at_ 67 rfl ?_); go_must (refine step_load rfl _ _ rfl wr.heap.size 0 [.string gm, .string sx, .string ⟨#[]⟩, .slice Ab a.body.length cb] _ _ (0, 0) _ rfl hbX rfl Try.underlying26 rfl info_req ?_))
                      | ((with_reducible refine at_store 22 (.tmp 65) (.tmp 64) rfl ?_); go_must (refine step_store1 rfl _ _ _ rfl wr.heap.size 3 (.slice Ab a.body.length cb) _ _ rfl rfl rfl hb71 (by simp) info_bytesR ?_); intro w72 hbX hk72 hs72; have KX := K71.trans hk72 (fun k hk h => by omega); have hOX : OwnRow w72 (fun k => wr.heap.size < k) 5 1 (.slice Ab a.body.length cb) X.body.length (Disk.bytes8 X.body) := (by rw [hxb]; exact (hO71.kept hk72 (fun k h h' => by have := hs7; have := hs6; omega)).mono (fun k hk h => by have := hs7; have := hs6; omega)))
                      | (go_at_call 44; go_loud (refine Rets.use (clone_c _ a.body (HR.out.kept (HKw.out.trans K7 (fun _ _ h => h)) (fun _ _ h => h)) (by omega)) ?_); rintro v71 w71 ⟨hO71, hk71⟩; obtain ⟨Ab, cb, rfl, _⟩ := hO71.slice; have hb71 := hk71.heap hb7 (fun h => h); have K71 := K7.trans hk71 (fun _ _ h => h))
                      | ((with_reducible refine at_store 26 (.tmp 9) (.tmp 58) rfl ?_); go_must (refine step_store rfl _ _ _ rfl wr.heap.size 0 [.string gm, .string sx, .string ⟨#[]⟩, .slice none 0 0] _ _ rfl rfl hb6 (by simp) info_req (by simp [Value.oneCell']) ?_); intro w7 hb7 hk7 hs7; rw [put_whole (by rfl)] at hb7; have K7 := hk6.trans hk7 (fun k hk h => by omega); have f3w := K7.cell f3 (fun h => h); have a3w := K7.cell a3 (fun h => h))
                      | ((with_reducible refine at_ 58 rfl ?_); go_must (refine step_build rfl 26 _ rfl [(0, .string gm), (1, .string sx)] rfl _ (build_req gm sx) ?_))
                      | ((with_reducible refine at_ 9 rfl ?_); go_must (refine step_alloc rfl _ rfl _ [.string ⟨#[]⟩, .string ⟨#[]⟩, .string ⟨#[]⟩, .slice none 0 0] row_req rfl ?_); intro w6 hb6 hk6 hs6))
                    rw [put_whole (by rfl)] at hb12
                    refine bodyPost_ret (ret_cell_tmp rfl [.string ⟨#[]⟩, .string ⟨#[]⟩, .string ⟨#[]⟩, .slice none 0 0] _ rfl hb12 Try.underlying26 rfl info_req) rfl ?_
                    rw [HF.out]
                    exact ⟨(HKw.out.trans K10 (fun _ _ h => h)).trans hk12 (fun _ hk h => by omega), _, rfl, OwnRow.nil _ _ _ _⟩
                · have HF := Lib.hid (show printP a = (zeroR, 2) by rw [HPP.out, if_neg (fun h => d1 (by rw [← h.2]))])
                  rw [decide_eq_false d1] at n1
                  clear HPP HKS HEq
                  try clear hkind
                  try clear d4
                  try clear d3
                  try clear d2
                  try clear d1
                  go_wp2_with (first
                    | ((with_reducible refine at_ 109 rfl ?_); go_must (refine step_build rfl 26 _ rfl [] rfl _ build_req0 ?_))
                    | ((with_reducible refine at_store 26 (.tmp 2) (.tmp 109) rfl ?_); go_must (refine step_store rfl _ _ _ rfl (w.heap.size + 1) 0 [.string ⟨#[]⟩, .string ⟨#[]⟩, .string ⟨#[]⟩, .slice none 0 0] _ _ rfl rfl hb1z (by simp) info_req (by simp [Value.oneCell']) ?_); intro w12 hb12 hk12 hs12)
                    | ((with_reducible refine at_store 66 (.tmp 10) (.tmp 69) rfl ?_); go_must (refine step_store rfl _ _ _ rfl w8.heap.size 0 (askC ⟨qk, qn, qs, qb, qaa, qbb⟩ (.slice A8 qb.length c8)) _ _ rfl rfl hb9 (by simp [askC_len]) (info_askC _ _) (by simp [askC, Value.oneCell']) ?_); intro w10 hb10 hk10 hs10; rw [put_whole (by rfl)] at hb10; have K910 := hk9.trans hk10 (fun k hk h => by omega); have K710 := hk8.trans K910 (fun _ _ h => h); have K10 := KX.trans K710 (fun _ _ h => h); have hbx10 := K710.heap hbX (fun h => h); have hO10x := hOX.kept K710 (fun _ _ h => h); have hb1z := K10.heap H1r.out (fun h => h); have hR10q := hO8.rd.kept K910 (fun _ _ h => h); have hR10a := HR.out.kept (HKw.out.trans K10 (fun _ _ h => h)) (fun _ _ h => h); have a1 := K10.cell a1 (fun h => h); have a2 := K10.cell a2 (fun h => h); have a3 := K10.cell a3 (fun h => h); have a4 := K10.cell a4 (fun h => h); have a5 := K10.cell a5 (fun h => h); have q1 : w10.cell? ⟨w8.heap.size, 1, none⟩ = some (.string (str qn)) := (cell_of_row w10 _ 1 _ _ _ hb10).trans rfl; have q2 : w10.cell? ⟨w8.heap.size, 2, none⟩ = some (.string (str qs)) := (cell_of_row w10 _ 2 _ _ _ hb10).trans rfl; have q3 : w10.cell? ⟨w8.heap.size, 3, none⟩ = some (.slice A8 qb.length c8) := (cell_of_row w10 _ 3 _ _ _ hb10).trans rfl; have q4 : w10.cell? ⟨w8.heap.size, 4, none⟩ = some (.int .i64 qaa) := (cell_of_row w10 _ 4 _ _ _ hb10).trans rfl; have q5 : w10.cell? ⟨w8.heap.size, 5, none⟩ = some (.int .i64 qbb) := (cell_of_row w10 _ 5 _ _ _ hb10).trans rfl)
                    | ((with_reducible refine at_ 10 rfl ?_); go_must (refine step_alloc rfl _ rfl _ (askC zeroA (.slice none 0 0)) row_ask rfl ?_); intro w9 hb9 hk9 hs9)
                    | (go_at_call 32; go_loud (rw [← HXV.out]); go_loud (refine Rets.use (HX.out _ _ _ hOX.rd) ?_); rintro _ w8 ⟨hk8, u8, rfl, hO8⟩; obtain ⟨A8, c8, rfl, _⟩ := hO8.slice)
                    | ((with_reducible refine at_ 67 rfl ?_); go_must (refine step_load rfl _ _ rfl wr.heap.size 0 [.string gm, .string sx, .string ⟨#[]⟩, .slice Ab a.body.length cb] _ _ (0, 0) _ rfl hbX rfl Try.underlying26 rfl info_req ?_))
                    | ((with_reducible refine at_store 22 (.tmp 65) (.tmp 64) rfl ?_); go_must (refine step_store1 rfl _ _ _ rfl wr.heap.size 3 (.slice Ab a.body.length cb) _ _ rfl rfl rfl hb71 (by simp) info_bytesR ?_); intro w72 hbX hk72 hs72; have KX := K71.trans hk72 (fun k hk h => by omega); have hOX : OwnRow w72 (fun k => wr.heap.size < k) 5 1 (.slice Ab a.body.length cb) X.body.length (Disk.bytes8 X.body) := (by rw [hxb]; exact (hO71.kept hk72 (fun k h h' => by have := hs7; have := hs6; omega)).mono (fun k hk h => by have := hs7; have := hs6; omega)))
                    | (go_at_call 44; go_loud (refine Rets.use (clone_c _ a.body (HR.out.kept (HKw.out.trans K7 (fun _ _ h => h)) (fun _ _ h => h)) (by omega)) ?_); rintro v71 w71 ⟨hO71, hk71⟩; obtain ⟨Ab, cb, rfl, _⟩ := hO71.slice; have hb71 := hk71.heap hb7 (fun h => h); have K71 := K7.trans hk71 (fun _ _ h => h))
                    | ((with_reducible refine at_store 26 (.tmp 9) (.tmp 58) rfl ?_); go_must (refine step_store rfl _ _ _ rfl wr.heap.size 0 [.string gm, .string sx, .string ⟨#[]⟩, .slice none 0 0] _ _ rfl rfl hb6 (by simp) info_req (by simp [Value.oneCell']) ?_); intro w7 hb7 hk7 hs7; rw [put_whole (by rfl)] at hb7; have K7 := hk6.trans hk7 (fun k hk h => by omega); have f3w := K7.cell f3 (fun h => h); have a3w := K7.cell a3 (fun h => h))
                    | ((with_reducible refine at_ 58 rfl ?_); go_must (refine step_build rfl 26 _ rfl [(0, .string gm), (1, .string sx)] rfl _ (build_req gm sx) ?_))
                    | ((with_reducible refine at_ 9 rfl ?_); go_must (refine step_alloc rfl _ rfl _ [.string ⟨#[]⟩, .string ⟨#[]⟩, .string ⟨#[]⟩, .slice none 0 0] row_req rfl ?_); intro w6 hb6 hk6 hs6))
                  rw [put_whole (by rfl)] at hb12
                  refine bodyPost_ret (ret_cell_tmp rfl [.string ⟨#[]⟩, .string ⟨#[]⟩, .string ⟨#[]⟩, .slice none 0 0] _ rfl hb12 Try.underlying26 rfl info_req) rfl ?_
                  rw [HF.out]
                  exact ⟨(HKw.out.trans K10 (fun _ _ h => h)).trans hk12 (fun _ hk h => by omega), _, rfl, OwnRow.nil _ _ _ _⟩
              · have HF := Lib.hid (show printP a = (zeroR, 2) by rw [HPP.out, if_neg (fun h => hc h.1)])
                have hcb : (code != 200) = true := by simpa using hc
                clear HPP HKS HEq
                try clear hkind
                try clear d4
                try clear d3
                try clear d2
                try clear d1
                go_wp2_with (first
                  | ((with_reducible refine at_ 109 rfl ?_); go_must (refine step_build rfl 26 _ rfl [] rfl _ build_req0 ?_))
                  | ((with_reducible refine at_store 26 (.tmp 2) (.tmp 109) rfl ?_); go_must (refine step_store rfl _ _ _ rfl (w.heap.size + 1) 0 [.string ⟨#[]⟩, .string ⟨#[]⟩, .string ⟨#[]⟩, .slice none 0 0] _ _ rfl rfl hb1z (by simp) info_req (by simp [Value.oneCell']) ?_); intro w12 hb12 hk12 hs12)
                  | ((with_reducible refine at_store 66 (.tmp 10) (.tmp 69) rfl ?_); go_must (refine step_store rfl _ _ _ rfl w8.heap.size 0 (askC ⟨qk, qn, qs, qb, qaa, qbb⟩ (.slice A8 qb.length c8)) _ _ rfl rfl hb9 (by simp [askC_len]) (info_askC _ _) (by simp [askC, Value.oneCell']) ?_); intro w10 hb10 hk10 hs10; rw [put_whole (by rfl)] at hb10; have K910 := hk9.trans hk10 (fun k hk h => by omega); have K710 := hk8.trans K910 (fun _ _ h => h); have K10 := KX.trans K710 (fun _ _ h => h); have hbx10 := K710.heap hbX (fun h => h); have hO10x := hOX.kept K710 (fun _ _ h => h); have hb1z := K10.heap H1r.out (fun h => h); have hR10q := hO8.rd.kept K910 (fun _ _ h => h); have hR10a := HR.out.kept (HKw.out.trans K10 (fun _ _ h => h)) (fun _ _ h => h); have a1 := K10.cell a1 (fun h => h); have a2 := K10.cell a2 (fun h => h); have a3 := K10.cell a3 (fun h => h); have a4 := K10.cell a4 (fun h => h); have a5 := K10.cell a5 (fun h => h); have q1 : w10.cell? ⟨w8.heap.size, 1, none⟩ = some (.string (str qn)) := (cell_of_row w10 _ 1 _ _ _ hb10).trans rfl; have q2 : w10.cell? ⟨w8.heap.size, 2, none⟩ = some (.string (str qs)) := (cell_of_row w10 _ 2 _ _ _ hb10).trans rfl; have q3 : w10.cell? ⟨w8.heap.size, 3, none⟩ = some (.slice A8 qb.length c8) := (cell_of_row w10 _ 3 _ _ _ hb10).trans rfl; have q4 : w10.cell? ⟨w8.heap.size, 4, none⟩ = some (.int .i64 qaa) := (cell_of_row w10 _ 4 _ _ _ hb10).trans rfl; have q5 : w10.cell? ⟨w8.heap.size, 5, none⟩ = some (.int .i64 qbb) := (cell_of_row w10 _ 5 _ _ _ hb10).trans rfl)
                  | ((with_reducible refine at_ 10 rfl ?_); go_must (refine step_alloc rfl _ rfl _ (askC zeroA (.slice none 0 0)) row_ask rfl ?_); intro w9 hb9 hk9 hs9)
                  | (go_at_call 32; go_loud (rw [← HXV.out]); go_loud (refine Rets.use (HX.out _ _ _ hOX.rd) ?_); rintro _ w8 ⟨hk8, u8, rfl, hO8⟩; obtain ⟨A8, c8, rfl, _⟩ := hO8.slice)
                  | ((with_reducible refine at_ 67 rfl ?_); go_must (refine step_load rfl _ _ rfl wr.heap.size 0 [.string gm, .string sx, .string ⟨#[]⟩, .slice Ab a.body.length cb] _ _ (0, 0) _ rfl hbX rfl Try.underlying26 rfl info_req ?_))
                  | ((with_reducible refine at_store 22 (.tmp 65) (.tmp 64) rfl ?_); go_must (refine step_store1 rfl _ _ _ rfl wr.heap.size 3 (.slice Ab a.body.length cb) _ _ rfl rfl rfl hb71 (by simp) info_bytesR ?_); intro w72 hbX hk72 hs72; have KX := K71.trans hk72 (fun k hk h => by omega); have hOX : OwnRow w72 (fun k => wr.heap.size < k) 5 1 (.slice Ab a.body.length cb) X.body.length (Disk.bytes8 X.body) := (by rw [hxb]; exact (hO71.kept hk72 (fun k h h' => by have := hs7; have := hs6; omega)).mono (fun k hk h => by have := hs7; have := hs6; omega)))
                  | (go_at_call 44; go_loud (refine Rets.use (clone_c _ a.body (HR.out.kept (HKw.out.trans K7 (fun _ _ h => h)) (fun _ _ h => h)) (by omega)) ?_); rintro v71 w71 ⟨hO71, hk71⟩; obtain ⟨Ab, cb, rfl, _⟩ := hO71.slice; have hb71 := hk71.heap hb7 (fun h => h); have K71 := K7.trans hk71 (fun _ _ h => h))
                  | ((with_reducible refine at_store 26 (.tmp 9) (.tmp 58) rfl ?_); go_must (refine step_store rfl _ _ _ rfl wr.heap.size 0 [.string gm, .string sx, .string ⟨#[]⟩, .slice none 0 0] _ _ rfl rfl hb6 (by simp) info_req (by simp [Value.oneCell']) ?_); intro w7 hb7 hk7 hs7; rw [put_whole (by rfl)] at hb7; have K7 := hk6.trans hk7 (fun k hk h => by omega); have f3w := K7.cell f3 (fun h => h); have a3w := K7.cell a3 (fun h => h))
                  | ((with_reducible refine at_ 58 rfl ?_); go_must (refine step_build rfl 26 _ rfl [(0, .string gm), (1, .string sx)] rfl _ (build_req gm sx) ?_))
                  | ((with_reducible refine at_ 9 rfl ?_); go_must (refine step_alloc rfl _ rfl _ [.string ⟨#[]⟩, .string ⟨#[]⟩, .string ⟨#[]⟩, .slice none 0 0] row_req rfl ?_); intro w6 hb6 hk6 hs6))
                rw [put_whole (by rfl)] at hb12
                refine bodyPost_ret (ret_cell_tmp rfl [.string ⟨#[]⟩, .string ⟨#[]⟩, .string ⟨#[]⟩, .slice none 0 0] _ rfl hb12 Try.underlying26 rfl info_req) rfl ?_
                rw [HF.out]
                exact ⟨(HKw.out.trans K10 (fun _ _ h => h)).trans hk12 (fun _ hk h => by omega), _, rfl, OwnRow.nil _ _ _ _⟩
            | false =>
              rw [hput] at hxb
              simp only [Bool.false_eq_true, if_false] at hxb
              have n1 := str_eq HQ.out.name HA.out.name
              have n2 := str_eq HQ.out.spec HA.out.spec
              have HEq := Lib.hid (fun (w : World) (ok ok2 : Nat → Prop) v u h1 h2 => equal_c (w := w) (ok := ok) (ok2 := ok2) v u q.body a.body HQ.out.body HA.out.body h1 h2)
              obtain ⟨qk, qn, qs, qb, qaa, qbb⟩ := q
              simp only at HKS HQL n1 n2 HEq
              by_cases hc : code = 200
              · subst hc
                have hcb : ((200 : Int) != 200) = false := rfl
                have hkind : qk = a.kind := HKS.out rfl
                by_cases d1 : qn = a.name
                · rw [decide_eq_true d1] at n1
                  by_cases d2 : qs = a.spec
                  · rw [decide_eq_true d2] at n2
                    by_cases d3 : qaa = a.a
                    · have b3 : (qaa != a.a) = false := by simpa using d3
                      by_cases d4 : qbb = a.b
                      · have b4 : (qbb != a.b) = false := by simpa using d4
                        by_cases d5 : qb = a.body
                        · have HF := Lib.hid (show printP a = (X, 0) by rw [HPP.out, if_pos ⟨rfl, by obtain ⟨_, _, _, _, _, _⟩ := a; simp only at *; subst hkind d1 d2 d3 d4 d5; rfl⟩])
                          rw [decide_eq_true d5] at HEq
                          clear d1 d2 d3 d4 d5 HPP HKS hkind
                          go_wp2_with (first
                            | (go_at_call 41; go_loud (refine Rets.use (HEq.out w10 _ _ _ _ hR10q hR10a) ?_); rintro _ _ ⟨rfl, rfl⟩)
                            | ((with_reducible refine at_ 110 rfl ?_); go_must (refine step_load rfl _ _ rfl wr.heap.size 0 [.string gm, .string sx, .string ⟨#[]⟩, .slice none 0 0] _ _ (0, 0) _ rfl hbx10 rfl Try.underlying26 rfl info_req ?_))
                            | ((with_reducible refine at_store 26 (.tmp 2) (.tmp 110) rfl ?_); go_must (refine step_store rfl _ _ _ rfl (w.heap.size + 1) 0 [.string gm, .string sx, .string ⟨#[]⟩, .slice none 0 0] _ _ rfl rfl hb1z (by simp) info_req (by simp [Value.oneCell']) ?_); intro w12 hb12 hk12 hs12)
                            | ((with_reducible refine at_store 66 (.tmp 10) (.tmp 69) rfl ?_); go_must (refine step_store rfl _ _ _ rfl w8.heap.size 0 (askC ⟨qk, qn, qs, qb, qaa, qbb⟩ (.slice A8 qb.length c8)) _ _ rfl rfl hb9 (by simp [askC_len]) (info_askC _ _) (by simp [askC, Value.oneCell']) ?_); intro w10 hb10 hk10 hs10; rw [put_whole (by rfl)] at hb10; have K910 := hk9.trans hk10 (fun k hk h => by omega); have K710 := hk8.trans K910 (fun _ _ h => h); have K10 := KX.trans K710 (fun _ _ h => h); have hbx10 := K710.heap hbX (fun h => h); have hO10x := hOX.kept K710 (fun _ _ h => h); have hb1z := K10.heap H1r.out (fun h => h); have hR10q := hO8.rd.kept K910 (fun _ _ h => h); have hR10a := HR.out.kept (HKw.out.trans K10 (fun _ _ h => h)) (fun _ _ h => h); have a1 := K10.cell a1 (fun h => h); have a2 := K10.cell a2 (fun h => h); have a3 := K10.cell a3 (fun h => h); have a4 := K10.cell a4 (fun h => h); have a5 := K10.cell a5 (fun h => h); have q1 : w10.cell? ⟨w8.heap.size, 1, none⟩ = some (.string (str qn)) := (cell_of_row w10 _ 1 _ _ _ hb10).trans rfl; have q2 : w10.cell? ⟨w8.heap.size, 2, none⟩ = some (.string (str qs)) := (cell_of_row w10 _ 2 _ _ _ hb10).trans rfl; have q3 : w10.cell? ⟨w8.heap.size, 3, none⟩ = some (.slice A8 qb.length c8) := (cell_of_row w10 _ 3 _ _ _ hb10).trans rfl; have q4 : w10.cell? ⟨w8.heap.size, 4, none⟩ = some (.int .i64 qaa) := (cell_of_row w10 _ 4 _ _ _ hb10).trans rfl; have q5 : w10.cell? ⟨w8.heap.size, 5, none⟩ = some (.int .i64 qbb) := (cell_of_row w10 _ 5 _ _ _ hb10).trans rfl)
                            | ((with_reducible refine at_ 10 rfl ?_); go_must (refine step_alloc rfl _ rfl _ (askC zeroA (.slice none 0 0)) row_ask rfl ?_); intro w9 hb9 hk9 hs9)
                            | (go_at_call 32; go_loud (rw [← HXV.out]); go_loud (refine Rets.use (HX.out _ _ _ hOX.rd) ?_); rintro _ w8 ⟨hk8, u8, rfl, hO8⟩; obtain ⟨A8, c8, rfl, _⟩ := hO8.slice)
                            | ((with_reducible refine at_ 67 rfl ?_); go_must (refine step_load rfl _ _ rfl wr.heap.size 0 [.string gm, .string sx, .string ⟨#[]⟩, .slice none 0 0] _ _ (0, 0) _ rfl hbX rfl Try.underlying26 rfl info_req ?_))
                            | ((with_reducible refine at_store 26 (.tmp 9) (.tmp 58) rfl ?_); go_must (refine step_store rfl _ _ _ rfl wr.heap.size 0 [.string gm, .string sx, .string ⟨#[]⟩, .slice none 0 0] _ _ rfl rfl hb6 (by simp) info_req (by simp [Value.oneCell']) ?_); intro w7 hb7 hk7 hs7; rw [put_whole (by rfl)] at hb7; have KX := hk6.trans hk7 (fun k hk h => by omega); have hbX := hb7; have f3 := KX.cell f3 (fun h => h); have hOX : OwnRow w7 (fun k => wr.heap.size < k) 5 1 (.slice none 0 0) X.body.length (Disk.bytes8 X.body) := (by rw [hxb]; exact OwnRow.nil _ _ _ _))
                            | ((with_reducible refine at_ 58 rfl ?_); go_must (refine step_build rfl 26 _ rfl [(0, .string gm), (1, .string sx)] rfl _ (build_req gm sx) ?_))
                            | ((with_reducible refine at_ 9 rfl ?_); go_must (refine step_alloc rfl _ rfl _ [.string ⟨#[]⟩, .string ⟨#[]⟩, .string ⟨#[]⟩, .slice none 0 0] row_req rfl ?_); intro w6 hb6 hk6 hs6))
                          rw [put_whole (by rfl)] at hb12
                          refine bodyPost_ret (ret_cell_tmp rfl [.string gm, .string sx, .string ⟨#[]⟩, .slice none 0 0] _ rfl hb12 Try.underlying26 rfl info_req) rfl ?_
                          rw [HF.out]
                          refine ⟨(HKw.out.trans K10 (fun _ _ h => h)).trans hk12 (fun _ hk h => by omega), .slice none 0 0, by rw [HXV.out] <;> rfl, ?_⟩
                          exact (hO10x.kept hk12 (fun k h h' => by have := HKw.out.size; omega)).mono (fun k hk h => by have := HKw.out.size; omega)
                        · have HF := Lib.hid (show printP a = (zeroR, 2) by rw [HPP.out, if_neg (fun h => d5 (by rw [← h.2]))])
                          rw [decide_eq_false d5] at HEq
                          clear d1 d2 d3 d4 d5 HPP HKS hkind
                          go_wp2_with (first
                            | (go_at_call 41; go_loud (refine Rets.use (HEq.out w10 _ _ _ _ hR10q hR10a) ?_); rintro _ _ ⟨rfl, rfl⟩)
                            | ((with_reducible refine at_ 109 rfl ?_); go_must (refine step_build rfl 26 _ rfl [] rfl _ build_req0 ?_))
                            | ((with_reducible refine at_store 26 (.tmp 2) (.tmp 109) rfl ?_); go_must (refine step_store rfl _ _ _ rfl (w.heap.size + 1) 0 [.string ⟨#[]⟩, .string ⟨#[]⟩, .string ⟨#[]⟩, .slice none 0 0] _ _ rfl rfl hb1z (by simp) info_req (by simp [Value.oneCell']) ?_); intro w12 hb12 hk12 hs12)
                            | ((with_reducible refine at_store 66 (.tmp 10) (.tmp 69) rfl ?_); go_must (refine step_store rfl _ _ _ rfl w8.heap.size 0 (askC ⟨qk, qn, qs, qb, qaa, qbb⟩ (.slice A8 qb.length c8)) _ _ rfl rfl hb9 (by simp [askC_len]) (info_askC _ _) (by simp [askC, Value.oneCell']) ?_); intro w10 hb10 hk10 hs10; rw [put_whole (by rfl)] at hb10; have K910 := hk9.trans hk10 (fun k hk h => by omega); have K710 := hk8.trans K910 (fun _ _ h => h); have K10 := KX.trans K710 (fun _ _ h => h); have hbx10 := K710.heap hbX (fun h => h); have hO10x := hOX.kept K710 (fun _ _ h => h); have hb1z := K10.heap H1r.out (fun h => h); have hR10q := hO8.rd.kept K910 (fun _ _ h => h); have hR10a := HR.out.kept (HKw.out.trans K10 (fun _ _ h => h)) (fun _ _ h => h); have a1 := K10.cell a1 (fun h => h); have a2 := K10.cell a2 (fun h => h); have a3 := K10.cell a3 (fun h => h); have a4 := K10.cell a4 (fun h => h); have a5 := K10.cell a5 (fun h => h); have q1 : w10.cell? ⟨w8.heap.size, 1, none⟩ = some (.string (str qn)) := (cell_of_row w10 _ 1 _ _ _ hb10).trans rfl; have q2 : w10.cell? ⟨w8.heap.size, 2, none⟩ = some (.string (str qs)) := (cell_of_row w10 _ 2 _ _ _ hb10).trans rfl; have q3 : w10.cell? ⟨w8.heap.size, 3, none⟩ = some (.slice A8 qb.length c8) := (cell_of_row w10 _ 3 _ _ _ hb10).trans rfl; have q4 : w10.cell? ⟨w8.heap.size, 4, none⟩ = some (.int .i64 qaa) := (cell_of_row w10 _ 4 _ _ _ hb10).trans rfl; have q5 : w10.cell? ⟨w8.heap.size, 5, none⟩ = some (.int .i64 qbb) := (cell_of_row w10 _ 5 _ _ _ hb10).trans rfl)
                            | ((with_reducible refine at_ 10 rfl ?_); go_must (refine step_alloc rfl _ rfl _ (askC zeroA (.slice none 0 0)) row_ask rfl ?_); intro w9 hb9 hk9 hs9)
                            | (go_at_call 32; go_loud (rw [← HXV.out]); go_loud (refine Rets.use (HX.out _ _ _ hOX.rd) ?_); rintro _ w8 ⟨hk8, u8, rfl, hO8⟩; obtain ⟨A8, c8, rfl, _⟩ := hO8.slice)
                            | ((with_reducible refine at_ 67 rfl ?_); go_must (refine step_load rfl _ _ rfl wr.heap.size 0 [.string gm, .string sx, .string ⟨#[]⟩, .slice none 0 0] _ _ (0, 0) _ rfl hbX rfl Try.underlying26 rfl info_req ?_))
                            | ((with_reducible refine at_store 26 (.tmp 9) (.tmp 58) rfl ?_); go_must (refine step_store rfl _ _ _ rfl wr.heap.size 0 [.string gm, .string sx, .string ⟨#[]⟩, .slice none 0 0] _ _ rfl rfl hb6 (by simp) info_req (by simp [Value.oneCell']) ?_); intro w7 hb7 hk7 hs7; rw [put_whole (by rfl)] at hb7; have KX := hk6.trans hk7 (fun k hk h => by omega); have hbX := hb7; have f3 := KX.cell f3 (fun h => h); have hOX : OwnRow w7 (fun k => wr.heap.size < k) 5 1 (.slice none 0 0) X.body.length (Disk.bytes8 X.body) := (by rw [hxb]; exact OwnRow.nil _ _ _ _))
                            | ((with_reducible refine at_ 58 rfl ?_); go_must (refine step_build rfl 26 _ rfl [(0, .string gm), (1, .string sx)] rfl _ (build_req gm sx) ?_))
                            | ((with_reducible refine at_ 9 rfl ?_); go_must (refine step_alloc rfl _ rfl _ [.string ⟨#[]⟩, .string ⟨#[]⟩, .string ⟨#[]⟩, .slice none 0 0] row_req rfl ?_); intro w6 hb6 hk6 hs6))
                          rw [put_whole (by rfl)] at hb12
                          refine bodyPost_ret (ret_cell_tmp rfl [.string ⟨#[]⟩, .string ⟨#[]⟩, .string ⟨#[]⟩, .slice none 0 0] _ rfl hb12 Try.underlying26 rfl info_req) rfl ?_
                          rw [HF.out]
                          exact ⟨(HKw.out.trans K10 (fun _ _ h => h)).trans hk12 (fun _ hk h => by omega), _, rfl, OwnRow.nil _ _ _ _⟩
                      · have b4 : (qbb != a.b) = true := by simpa using d4
                        have HF := Lib.hid (show printP a = (zeroR, 2) by rw [HPP.out, if_neg (fun h => d4 (by rw [← h.2]))])
                        clear HPP HKS HEq
                        try clear hkind
                        try clear d4
                        try clear d3
                        try clear d2
                        try clear d1
                        go_wp2_with (first
                          | ((with_reducible refine at_ 109 rfl ?_); go_must (refine step_build rfl 26 _ rfl [] rfl _ build_req0 ?_))
                          | ((with_reducible refine at_store 26 (.tmp 2) (.tmp 109) rfl ?_); go_must (refine step_store rfl _ _ _ rfl (w.heap.size + 1) 0 [.string ⟨#[]⟩, .string ⟨#[]⟩, .string ⟨#[]⟩, .slice none 0 0] _ _ rfl rfl hb1z (by simp) info_req (by simp [Value.oneCell']) ?_); intro w12 hb12 hk12 hs12)
                          | ((with_reducible refine at_store 66 (.tmp 10) (.tmp 69) rfl ?_); go_must (refine step_store rfl _ _ _ rfl w8.heap.size 0 (askC ⟨qk, qn, qs, qb, qaa, qbb⟩ (.slice A8 qb.length c8)) _ _ rfl rfl hb9 (by simp [askC_len]) (info_askC _ _) (by simp [askC, Value.oneCell']) ?_); intro w10 hb10 hk10 hs10; rw [put_whole (by rfl)] at hb10; have K910 := hk9.trans hk10 (fun k hk h => by omega); have K710 := hk8.trans K910 (fun _ _ h => h); have K10 := KX.trans K710 (fun _ _ h => h); have hbx10 := K710.heap hbX (fun h => h); have hO10x := hOX.kept K710 (fun _ _ h => h); have hb1z := K10.heap H1r.out (fun h => h); have hR10q := hO8.rd.kept K910 (fun _ _ h => h); have hR10a := HR.out.kept (HKw.out.trans K10 (fun _ _ h => h)) (fun _ _ h => h); have a1 := K10.cell a1 (fun h => h); have a2 := K10.cell a2 (fun h => h); have a3 := K10.cell a3 (fun h => h); have a4 := K10.cell a4 (fun h => h); have a5 := K10.cell a5 (fun h => h); have q1 : w10.cell? ⟨w8.heap.size, 1, none⟩ = some (.string (str qn)) := (cell_of_row w10 _ 1 _ _ _ hb10).trans rfl; have q2 : w10.cell? ⟨w8.heap.size, 2, none⟩ = some (.string (str qs)) := (cell_of_row w10 _ 2 _ _ _ hb10).trans rfl; have q3 : w10.cell? ⟨w8.heap.size, 3, none⟩ = some (.slice A8 qb.length c8) := (cell_of_row w10 _ 3 _ _ _ hb10).trans rfl; have q4 : w10.cell? ⟨w8.heap.size, 4, none⟩ = some (.int .i64 qaa) := (cell_of_row w10 _ 4 _ _ _ hb10).trans rfl; have q5 : w10.cell? ⟨w8.heap.size, 5, none⟩ = some (.int .i64 qbb) := (cell_of_row w10 _ 5 _ _ _ hb10).trans rfl)
                          | ((with_reducible refine at_ 10 rfl ?_); go_must (refine step_alloc rfl _ rfl _ (askC zeroA (.slice none 0 0)) row_ask rfl ?_); intro w9 hb9 hk9 hs9)
                          | (go_at_call 32; go_loud (rw [← HXV.out]); go_loud (refine Rets.use (HX.out _ _ _ hOX.rd) ?_); rintro _ w8 ⟨hk8, u8, rfl, hO8⟩; obtain ⟨A8, c8, rfl, _⟩ := hO8.slice)
                          | ((with_reducible refine at_ 67 rfl ?_); go_must (refine step_load rfl _ _ rfl wr.heap.size 0 [.string gm, .string sx, .string ⟨#[]⟩, .slice none 0 0] _ _ (0, 0) _ rfl hbX rfl Try.underlying26 rfl info_req ?_))
                          | ((with_reducible refine at_store 26 (.tmp 9) (.tmp 58) rfl ?_); go_must (refine step_store rfl _ _ _ rfl wr.heap.size 0 [.string gm, .string sx, .string ⟨#[]⟩, .slice none 0 0] _ _ rfl rfl hb6 (by simp) info_req (by simp [Value.oneCell']) ?_); intro w7 hb7 hk7 hs7; rw [put_whole (by rfl)] at hb7; have KX := hk6.trans hk7 (fun k hk h => by omega); have hbX := hb7; have f3 := KX.cell f3 (fun h => h); have hOX : OwnRow w7 (fun k => wr.heap.size < k) 5 1 (.slice none 0 0) X.body.length (Disk.bytes8 X.body) := (by rw [hxb]; exact OwnRow.nil _ _ _ _))
                          | ((with_reducible refine at_ 58 rfl ?_); go_must (refine step_build rfl 26 _ rfl [(0, .string gm), (1, .string sx)] rfl _ (build_req gm sx) ?_))
                          | ((with_reducible refine at_ 9 rfl ?_); go_must (refine step_alloc rfl _ rfl _ [.string ⟨#[]⟩, .string ⟨#[]⟩, .string ⟨#[]⟩, .slice none 0 0] row_req rfl ?_); intro w6 hb6 hk6 hs6))
                        rw [put_whole (by rfl)] at hb12
                        refine bodyPost_ret (ret_cell_tmp rfl [.string ⟨#[]⟩, .string ⟨#[]⟩, .string ⟨#[]⟩, .slice none 0 0] _ rfl hb12 Try.underlying26 rfl info_req) rfl ?_
                        rw [HF.out]
                        exact ⟨(HKw.out.trans K10 (fun _ _ h => h)).trans hk12 (fun _ hk h => by omega), _, rfl, OwnRow.nil _ _ _ _⟩
                    · have b3 : (qaa != a.a) = true := by simpa using d3
                      have HF := Lib.hid (show printP a = (zeroR, 2) by rw [HPP.out, if_neg (fun h => d3 (by rw [← h.2]))])
                      clear HPP HKS HEq
                      try clear hkind
                      try clear d4
                      try clear d3
                      try clear d2
                      try clear d1
                      go_wp2_with (first
                        | ((with_reducible refine at_ 109 rfl ?_); go_must (refine step_build rfl 26 _ rfl [] rfl _ build_req0 ?_))
                        | ((with_reducible refine at_store 26 (.tmp 2) (.tmp 109) rfl ?_); go_must (refine step_store rfl _ _ _ rfl (w.heap.size + 1) 0 [.string ⟨#[]⟩, .string ⟨#[]⟩, .string ⟨#[]⟩, .slice none 0 0] _ _ rfl rfl hb1z (by simp) info_req (by simp [Value.oneCell']) ?_); intro w12 hb12 hk12 hs12)
                        | ((with_reducible refine at_store 66 (.tmp 10) (.tmp 69) rfl ?_); go_must (refine step_store rfl _ _ _ rfl w8.heap.size 0 (askC ⟨qk, qn, qs, qb, qaa, qbb⟩ (.slice A8 qb.length c8)) _ _ rfl rfl hb9 (by simp [askC_len]) (info_askC _ _) (by simp [askC, Value.oneCell']) ?_); intro w10 hb10 hk10 hs10; rw [put_whole (by rfl)] at hb10; have K910 := hk9.trans hk10 (fun k hk h => by omega); have K710 := hk8.trans K910 (fun _ _ h => h); have K10 := KX.trans K710 (fun _ _ h => h); have hbx10 := K710.heap hbX (fun h => h); have hO10x := hOX.kept K710 (fun _ _ h => h); have hb1z := K10.heap H1r.out (fun h => h); have hR10q := hO8.rd.kept K910 (fun _ _ h => h); have hR10a := HR.out.kept (HKw.out.trans K10 (fun _ _ h => h)) (fun _ _ h => h); have a1 := K10.cell a1 (fun h => h); have a2 := K10.cell a2 (fun h => h); have a3 := K10.cell a3 (fun h => h); have a4 := K10.cell a4 (fun h => h); have a5 := K10.cell a5 (fun h => h); have q1 : w10.cell? ⟨w8.heap.size, 1, none⟩ = some (.string (str qn)) := (cell_of_row w10 _ 1 _ _ _ hb10).trans rfl; have q2 : w10.cell? ⟨w8.heap.size, 2, none⟩ = some (.string (str qs)) := (cell_of_row w10 _ 2 _ _ _ hb10).trans rfl; have q3 : w10.cell? ⟨w8.heap.size, 3, none⟩ = some (.slice A8 qb.length c8) := (cell_of_row w10 _ 3 _ _ _ hb10).trans rfl; have q4 : w10.cell? ⟨w8.heap.size, 4, none⟩ = some (.int .i64 qaa) := (cell_of_row w10 _ 4 _ _ _ hb10).trans rfl; have q5 : w10.cell? ⟨w8.heap.size, 5, none⟩ = some (.int .i64 qbb) := (cell_of_row w10 _ 5 _ _ _ hb10).trans rfl)
                        | ((with_reducible refine at_ 10 rfl ?_); go_must (refine step_alloc rfl _ rfl _ (askC zeroA (.slice none 0 0)) row_ask rfl ?_); intro w9 hb9 hk9 hs9)
                        | (go_at_call 32; go_loud (rw [← HXV.out]); go_loud (refine Rets.use (HX.out _ _ _ hOX.rd) ?_); rintro _ w8 ⟨hk8, u8, rfl, hO8⟩; obtain ⟨A8, c8, rfl, _⟩ := hO8.slice)
                        | ((with_reducible refine at_ 67 rfl ?_); go_must (refine step_load rfl _ _ rfl wr.heap.size 0 [.string gm, .string sx, .string ⟨#[]⟩, .slice none 0 0] _ _ (0, 0) _ rfl hbX rfl Try.underlying26 rfl info_req ?_))
                        | ((with_reducible refine at_store 26 (.tmp 9) (.tmp 58) rfl ?_); go_must (refine step_store rfl _ _ _ rfl wr.heap.size 0 [.string gm, .string sx, .string ⟨#[]⟩, .slice none 0 0] _ _ rfl rfl hb6 (by simp) info_req (by simp [Value.oneCell']) ?_); intro w7 hb7 hk7 hs7; rw [put_whole (by rfl)] at hb7; have KX := hk6.trans hk7 (fun k hk h => by omega); have hbX := hb7; have f3 := KX.cell f3 (fun h => h); have hOX : OwnRow w7 (fun k => wr.heap.size < k) 5 1 (.slice none 0 0) X.body.length (Disk.bytes8 X.body) := (by rw [hxb]; exact OwnRow.nil _ _ _ _))
                        | ((with_reducible refine at_ 58 rfl ?_); go_must (refine step_build rfl 26 _ rfl [(0, .string gm), (1, .string sx)] rfl _ (build_req gm sx) ?_))
                        | ((with_reducible refine at_ 9 rfl ?_); go_must (refine step_alloc rfl _ rfl _ [.string ⟨#[]⟩, .string ⟨#[]⟩, .string ⟨#[]⟩, .slice none 0 0] row_req rfl ?_); intro w6 hb6 hk6 hs6))
                      rw [put_whole (by rfl)] at hb12
                      refine bodyPost_ret (ret_cell_tmp rfl [.string ⟨#[]⟩, .string ⟨#[]⟩, .string ⟨#[]⟩, .slice none 0 0] _ rfl hb12 Try.underlying26 rfl info_req) rfl ?_
                      rw [HF.out]
                      exact ⟨(HKw.out.trans K10 (fun _ _ h => h)).trans hk12 (fun _ hk h => by omega), _, rfl, OwnRow.nil _ _ _ _⟩
                  · have HF := Lib.hid (show printP a = (zeroR, 2) by rw [HPP.out, if_neg (fun h => d2 (by rw [← h.2]))])
                    rw [decide_eq_false d2] at n2
                    clear HPP HKS HEq
                    try clear hkind
                    try clear d4
                    try clear d3
                    try clear d2
                    try clear d1
                    go_wp2_with (first
                      | ((with_reducible refine at_ 109 rfl ?_); go_must (refine step_build rfl 26 _ rfl [] rfl _ build_req0 ?_))
                      | ((with_reducible refine at_store 26 (.tmp 2) (.tmp 109) rfl ?_); go_must (refine step_store rfl _ _ _ rfl (w.heap.size + 1) 0 [.string ⟨#[]⟩, .string ⟨#[]⟩, .string ⟨#[]⟩, .slice none 0 0] _ _ rfl rfl hb1z (by simp) info_req (by simp [Value.oneCell']) ?_); intro w12 hb12 hk12 hs12)
                      | ((with_reducible refine at_store 66 (.tmp 10) (.tmp 69) rfl ?_); go_must (refine step_store rfl _ _ _ rfl w8.heap.size 0 (askC ⟨qk, qn, qs, qb, qaa, qbb⟩ (.slice A8 qb.length c8)) _ _ rfl rfl hb9 (by simp [askC_len]) (info_askC _ _) (by simp [askC, Value.oneCell']) ?_); intro w10 hb10 hk10 hs10; rw [put_whole (by rfl)] at hb10; have K910 := hk9.trans hk10 (fun k hk h => by omega); have K710 := hk8.trans K910 (fun _ _ h => h); have K10 := KX.trans K710 (fun _ _ h => h); have hbx10 := K710.heap hbX (fun h => h); have hO10x := hOX.kept K710 (fun _ _ h => h); have hb1z := K10.heap H1r.out (fun h => h); have hR10q := hO8.rd.kept K910 (fun _ _ h => h); have hR10a := HR.out.kept (HKw.out.trans K10 (fun _ _ h => h)) (fun _ _ h => h); have a1 := K10.cell a1 (fun h => h); have a2 := K10.cell a2 (fun h => h); have a3 := K10.cell a3 (fun h => h); have a4 := K10.cell a4 (fun h => h); have a5 := K10.cell a5 (fun h => h); have q1 : w10.cell? ⟨w8.heap.size, 1, none⟩ = some (.string (str qn)) := (cell_of_row w10 _ 1 _ _ _ hb10).trans rfl; have q2 : w10.cell? ⟨w8.heap.size, 2, none⟩ = some (.string (str qs)) := (cell_of_row w10 _ 2 _ _ _ hb10).trans rfl; have q3 : w10.cell? ⟨w8.heap.size, 3, none⟩ = some (.slice A8 qb.length c8) := (cell_of_row w10 _ 3 _ _ _ hb10).trans rfl; have q4 : w10.cell? ⟨w8.heap.size, 4, none⟩ = some (.int .i64 qaa) := (cell_of_row w10 _ 4 _ _ _ hb10).trans rfl; have q5 : w10.cell? ⟨w8.heap.size, 5, none⟩ = some (.int .i64 qbb) := (cell_of_row w10 _ 5 _ _ _ hb10).trans rfl)
                      | ((with_reducible refine at_ 10 rfl ?_); go_must (refine step_alloc rfl _ rfl _ (askC zeroA (.slice none 0 0)) row_ask rfl ?_); intro w9 hb9 hk9 hs9)
                      | (go_at_call 32; go_loud (rw [← HXV.out]); go_loud (refine Rets.use (HX.out _ _ _ hOX.rd) ?_); rintro _ w8 ⟨hk8, u8, rfl, hO8⟩; obtain ⟨A8, c8, rfl, _⟩ := hO8.slice)
                      | ((with_reducible refine at_ 67 rfl ?_); go_must (refine step_load rfl _ _ rfl wr.heap.size 0 [.string gm, .string sx, .string ⟨#[]⟩, .slice none 0 0] _ _ (0, 0) _ rfl hbX rfl Try.underlying26 rfl info_req ?_))
                      | ((with_reducible refine at_store 26 (.tmp 9) (.tmp 58) rfl ?_); go_must (refine step_store rfl _ _ _ rfl wr.heap.size 0 [.string gm, .string sx, .string ⟨#[]⟩, .slice none 0 0] _ _ rfl rfl hb6 (by simp) info_req (by simp [Value.oneCell']) ?_); intro w7 hb7 hk7 hs7; rw [put_whole (by rfl)] at hb7; have KX := hk6.trans hk7 (fun k hk h => by omega); have hbX := hb7; have f3 := KX.cell f3 (fun h => h); have hOX : OwnRow w7 (fun k => wr.heap.size < k) 5 1 (.slice none 0 0) X.body.length (Disk.bytes8 X.body) := (by rw [hxb]; exact OwnRow.nil _ _ _ _))
                      | ((with_reducible refine at_ 58 rfl ?_); go_must (refine step_build rfl 26 _ rfl [(0, .string gm), (1, .string sx)] rfl _ (build_req gm sx) ?_))
                      | ((with_reducible refine at_ 9 rfl ?_); go_must (refine step_alloc rfl _ rfl _ [.string ⟨#[]⟩, .string ⟨#[]⟩, .string ⟨#[]⟩, .slice none 0 0] row_req rfl ?_); intro w6 hb6 hk6 hs6))
                    rw [put_whole (by rfl)] at hb12
                    refine bodyPost_ret (ret_cell_tmp rfl [.string ⟨#[]⟩, .string ⟨#[]⟩, .string ⟨#[]⟩, .slice none 0 0] _ rfl hb12 Try.underlying26 rfl info_req) rfl ?_
                    rw [HF.out]
                    exact ⟨(HKw.out.trans K10 (fun _ _ h => h)).trans hk12 (fun _ hk h => by omega), _, rfl, OwnRow.nil _ _ _ _⟩
                · have HF := Lib.hid (show printP a = (zeroR, 2) by rw [HPP.out, if_neg (fun h => d1 (by rw [← h.2]))])
                  rw [decide_eq_false d1] at n1
                  clear HPP HKS HEq
                  try clear hkind
                  try clear d4
                  try clear d3
                  try clear d2
                  try clear d1
                  go_wp2_with (first
                    | ((with_reducible refine at_ 109 rfl ?_); go_must (refine step_build rfl 26 _ rfl [] rfl _ build_req0 ?_))
                    | ((with_reducible refine at_store 26 (.tmp 2) (.tmp 109) rfl ?_); go_must (refine step_store rfl _ _ _ rfl (w.heap.size + 1) 0 [.string ⟨#[]⟩, .string ⟨#[]⟩, .string ⟨#[]⟩, .slice none 0 0] _ _ rfl rfl hb1z (by simp) info_req (by simp [Value.oneCell']) ?_); intro w12 hb12 hk12 hs12)
                    | ((with_reducible refine at_store 66 (.tmp 10) (.tmp 69) rfl ?_); go_must (refine step_store rfl _ _ _ rfl w8.heap.size 0 (askC ⟨qk, qn, qs, qb, qaa, qbb⟩ (.slice A8 qb.length c8)) _ _ rfl rfl hb9 (by simp [askC_len]) (info_askC _ _) (by simp [askC, Value.oneCell']) ?_); intro w10 hb10 hk10 hs10; rw [put_whole (by rfl)] at hb10; have K910 := hk9.trans hk10 (fun k hk h => by omega); have K710 := hk8.trans K910 (fun _ _ h => h); have K10 := KX.trans K710 (fun _ _ h => h); have hbx10 := K710.heap hbX (fun h => h); have hO10x := hOX.kept K710 (fun _ _ h => h); have hb1z := K10.heap H1r.out (fun h => h); have hR10q := hO8.rd.kept K910 (fun _ _ h => h); have hR10a := HR.out.kept (HKw.out.trans K10 (fun _ _ h => h)) (fun _ _ h => h); have a1 := K10.cell a1 (fun h => h); have a2 := K10.cell a2 (fun h => h); have a3 := K10.cell a3 (fun h => h); have a4 := K10.cell a4 (fun h => h); have a5 := K10.cell a5 (fun h => h); have q1 : w10.cell? ⟨w8.heap.size, 1, none⟩ = some (.string (str qn)) := (cell_of_row w10 _ 1 _ _ _ hb10).trans rfl; have q2 : w10.cell? ⟨w8.heap.size, 2, none⟩ = some (.string (str qs)) := (cell_of_row w10 _ 2 _ _ _ hb10).trans rfl; have q3 : w10.cell? ⟨w8.heap.size, 3, none⟩ = some (.slice A8 qb.length c8) := (cell_of_row w10 _ 3 _ _ _ hb10).trans rfl; have q4 : w10.cell? ⟨w8.heap.size, 4, none⟩ = some (.int .i64 qaa) := (cell_of_row w10 _ 4 _ _ _ hb10).trans rfl; have q5 : w10.cell? ⟨w8.heap.size, 5, none⟩ = some (.int .i64 qbb) := (cell_of_row w10 _ 5 _ _ _ hb10).trans rfl)
                    | ((with_reducible refine at_ 10 rfl ?_); go_must (refine step_alloc rfl _ rfl _ (askC zeroA (.slice none 0 0)) row_ask rfl ?_); intro w9 hb9 hk9 hs9)
                    | (go_at_call 32; go_loud (rw [← HXV.out]); go_loud (refine Rets.use (HX.out _ _ _ hOX.rd) ?_); rintro _ w8 ⟨hk8, u8, rfl, hO8⟩; obtain ⟨A8, c8, rfl, _⟩ := hO8.slice)
                    | ((with_reducible refine at_ 67 rfl ?_); go_must (refine step_load rfl _ _ rfl wr.heap.size 0 [.string gm, .string sx, .string ⟨#[]⟩, .slice none 0 0] _ _ (0, 0) _ rfl hbX rfl Try.underlying26 rfl info_req ?_))
                    | ((with_reducible refine at_store 26 (.tmp 9) (.tmp 58) rfl ?_); go_must (refine step_store rfl _ _ _ rfl wr.heap.size 0 [.string gm, .string sx, .string ⟨#[]⟩, .slice none 0 0] _ _ rfl rfl hb6 (by simp) info_req (by simp [Value.oneCell']) ?_); intro w7 hb7 hk7 hs7; rw [put_whole (by rfl)] at hb7; have KX := hk6.trans hk7 (fun k hk h => by omega); have hbX := hb7; have f3 := KX.cell f3 (fun h => h); have hOX : OwnRow w7 (fun k => wr.heap.size < k) 5 1 (.slice none 0 0) X.body.length (Disk.bytes8 X.body) := (by rw [hxb]; exact OwnRow.nil _ _ _ _))
                    | ((with_reducible refine at_ 58 rfl ?_); go_must (refine step_build rfl 26 _ rfl [(0, .string gm), (1, .string sx)] rfl _ (build_req gm sx) ?_))
                    | ((with_reducible refine at_ 9 rfl ?_); go_must (refine step_alloc rfl _ rfl _ [.string ⟨#[]⟩, .string ⟨#[]⟩, .string ⟨#[]⟩, .slice none 0 0] row_req rfl ?_); intro w6 hb6 hk6 hs6))
                  rw [put_whole (by rfl)] at hb12
                  refine bodyPost_ret (ret_cell_tmp rfl [.string ⟨#[]⟩, .string ⟨#[]⟩, .string ⟨#[]⟩, .slice none 0 0] _ rfl hb12 Try.underlying26 rfl info_req) rfl ?_
                  rw [HF.out]
                  exact ⟨(HKw.out.trans K10 (fun _ _ h => h)).trans hk12 (fun _ hk h => by omega), _, rfl, OwnRow.nil _ _ _ _⟩
              · have HF := Lib.hid (show printP a = (zeroR, 2) by rw [HPP.out, if_neg (fun h => hc h.1)])
                have hcb : (code != 200) = true := by simpa using hc
                clear HPP HKS HEq
                try clear hkind
                try clear d4
                try clear d3
                try clear d2
                try clear d1
                go_wp2_with (first
                  | ((with_reducible refine at_ 109 rfl ?_); go_must (refine step_build rfl 26 _ rfl [] rfl _ build_req0 ?_))
                  | ((with_reducible refine at_store 26 (.tmp 2) (.tmp 109) rfl ?_); go_must (refine step_store rfl _ _ _ rfl (w.heap.size + 1) 0 [.string ⟨#[]⟩, .string ⟨#[]⟩, .string ⟨#[]⟩, .slice none 0 0] _ _ rfl rfl hb1z (by simp) info_req (by simp [Value.oneCell']) ?_); intro w12 hb12 hk12 hs12)
                  | ((with_reducible refine at_store 66 (.tmp 10) (.tmp 69) rfl ?_); go_must (refine step_store rfl _ _ _ rfl w8.heap.size 0 (askC ⟨qk, qn, qs, qb, qaa, qbb⟩ (.slice A8 qb.length c8)) _ _ rfl rfl hb9 (by simp [askC_len]) (info_askC _ _) (by simp [askC, Value.oneCell']) ?_); intro w10 hb10 hk10 hs10; rw [put_whole (by rfl)] at hb10; have K910 := hk9.trans hk10 (fun k hk h => by omega); have K710 := hk8.trans K910 (fun _ _ h => h); have K10 := KX.trans K710 (fun _ _ h => h); have hbx10 := K710.heap hbX (fun h => h); have hO10x := hOX.kept K710 (fun _ _ h => h); have hb1z := K10.heap H1r.out (fun h => h); have hR10q := hO8.rd.kept K910 (fun _ _ h => h); have hR10a := HR.out.kept (HKw.out.trans K10 (fun _ _ h => h)) (fun _ _ h => h); have a1 := K10.cell a1 (fun h => h); have a2 := K10.cell a2 (fun h => h); have a3 := K10.cell a3 (fun h => h); have a4 := K10.cell a4 (fun h => h); have a5 := K10.cell a5 (fun h => h); have q1 : w10.cell? ⟨w8.heap.size, 1, none⟩ = some (.string (str qn)) := (cell_of_row w10 _ 1 _ _ _ hb10).trans rfl; have q2 : w10.cell? ⟨w8.heap.size, 2, none⟩ = some (.string (str qs)) := (cell_of_row w10 _ 2 _ _ _ hb10).trans rfl; have q3 : w10.cell? ⟨w8.heap.size, 3, none⟩ = some (.slice A8 qb.length c8) := (cell_of_row w10 _ 3 _ _ _ hb10).trans rfl; have q4 : w10.cell? ⟨w8.heap.size, 4, none⟩ = some (.int .i64 qaa) := (cell_of_row w10 _ 4 _ _ _ hb10).trans rfl; have q5 : w10.cell? ⟨w8.heap.size, 5, none⟩ = some (.int .i64 qbb) := (cell_of_row w10 _ 5 _ _ _ hb10).trans rfl)
                  | ((with_reducible refine at_ 10 rfl ?_); go_must (refine step_alloc rfl _ rfl _ (askC zeroA (.slice none 0 0)) row_ask rfl ?_); intro w9 hb9 hk9 hs9)
                  | (go_at_call 32; go_loud (rw [← HXV.out]); go_loud (refine Rets.use (HX.out _ _ _ hOX.rd) ?_); rintro _ w8 ⟨hk8, u8, rfl, hO8⟩; obtain ⟨A8, c8, rfl, _⟩ := hO8.slice)
                  | ((with_reducible refine at_ 67 rfl ?_); go_must (refine step_load rfl _ _ rfl wr.heap.size 0 [.string gm, .string sx, .string ⟨#[]⟩, .slice none 0 0] _ _ (0, 0) _ rfl hbX rfl Try.underlying26 rfl info_req ?_))
                  | ((with_reducible refine at_store 26 (.tmp 9) (.tmp 58) rfl ?_); go_must (refine step_store rfl _ _ _ rfl wr.heap.size 0 [.string gm, .string sx, .string ⟨#[]⟩, .slice none 0 0] _ _ rfl rfl hb6 (by simp) info_req (by simp [Value.oneCell']) ?_); intro w7 hb7 hk7 hs7; rw [put_whole (by rfl)] at hb7; have KX := hk6.trans hk7 (fun k hk h => by omega); have hbX := hb7; have f3 := KX.cell f3 (fun h => h); have hOX : OwnRow w7 (fun k => wr.heap.size < k) 5 1 (.slice none 0 0) X.body.length (Disk.bytes8 X.body) := (by rw [hxb]; exact OwnRow.nil _ _ _ _))
                  | ((with_reducible refine at_ 58 rfl ?_); go_must (refine step_build rfl 26 _ rfl [(0, .string gm), (1, .string sx)] rfl _ (build_req gm sx) ?_))
                  | ((with_reducible refine at_ 9 rfl ?_); go_must (refine step_alloc rfl _ rfl _ [.string ⟨#[]⟩, .string ⟨#[]⟩, .string ⟨#[]⟩, .slice none 0 0] row_req rfl ?_); intro w6 hb6 hk6 hs6))
                rw [put_whole (by rfl)] at hb12
                refine bodyPost_ret (ret_cell_tmp rfl [.string ⟨#[]⟩, .string ⟨#[]⟩, .string ⟨#[]⟩, .slice none 0 0] _ rfl hb12 Try.underlying26 rfl info_req) rfl ?_
                rw [HF.out]
                exact ⟨(HKw.out.trans K10 (fun _ _ h => h)).trans hk12 (fun _ hk h => by omega), _, rfl, OwnRow.nil _ _ _ _⟩
    · obtain rfl : k = 10 := by omega
      have HF := Lib.hid (show printP a = (zeroR, 2) by unfold printP; rw [formK_none HN.out])
      clear HN
      go_wp2_with (first
        | ((with_reducible refine at_ 112 rfl ?_); go_must (refine step_build rfl 26 _ rfl [] rfl _ build_req0 ?_))
        | ((with_reducible refine at_store 26 (.tmp 2) (.tmp 112) rfl ?_); go_must (refine step_store rfl _ _ _ rfl (w.heap.size + 1) 0 [.string ⟨#[]⟩, .string ⟨#[]⟩, .string ⟨#[]⟩, .slice none 0 0] _ _ rfl rfl H1r.out (by simp) info_req (by simp [Value.oneCell']) ?_); intro w12 hb12 hk12 hs12))
      rw [put_whole (by rfl)] at hb12
      refine bodyPost_ret (ret_cell_tmp rfl [.string ⟨#[]⟩, .string ⟨#[]⟩, .string ⟨#[]⟩, .slice none 0 0] _ rfl hb12 Try.underlying26 rfl info_req) rfl ?_
      rw [HF.out]
      exact ⟨(HK3.out.trans HKr.out (fun _ _ h => h)).trans hk12 (fun _ hk h => by omega), _, rfl, OwnRow.nil _ _ _ _⟩
theorem print_pack {a : AskP} (ha : a.Ok) (hl1 : a.name.length ≤ 30) (hl2 : a.spec.length ≤ 30) (hl3 : a.body.length ≤ 4200) {g : FormP} (hk : formK a.kind = some g) : (reqG g a).Ok ∧ (reqG g a).target.length ≤ 100 ∧ (reqG g a).body.length ≤ 4200 := by
  obtain ⟨hf, hp⟩ := first_len g (formK_mem hk).1
  refine ⟨⟨bytesOf_byte _, tgt_byte _ _ ha _, IsB.nil, ?_⟩, ?_, ?_⟩
  · unfold reqG; simp only; split
    · exact ha.body
    · exact IsB.nil
  · have := tgt_len hf g.numbers a hl1 hl2 g.pieces
    show (tgtG g.first g.numbers a g.pieces).length ≤ 100
    omega
  · unfold reqG; simp only; split
    · exact hl3
    · simp
theorem AskP.cut_cut (r : AskP) : r.cut.cut = r.cut := by unfold AskP.cut; simp [List.take_take]
theorem AskP.cut_len (r : AskP) : r.cut.name.length ≤ 30 ∧ r.cut.spec.length ≤ 30 ∧ r.cut.body.length ≤ 4200 := by unfold AskP.cut; simp only [List.length_take]; omega
theorem printP_ok {a : AskP} (ha : a.Ok) (hl1 : a.name.length ≤ 30) (hl2 : a.spec.length ≤ 30) (hl3 : a.body.length ≤ 4200) : (printP a).1.Ok ∧ (printP a).1.body.length ≤ 4200 := by
  have hz : zeroR.Ok ∧ zeroR.body.length ≤ 4200 := ⟨⟨IsB.nil, IsB.nil, IsB.nil, IsB.nil⟩, by decide⟩
  unfold printP
  split
  · exact hz
  · rename_i g hk
    have := print_pack ha hl1 hl2 hl3 hk
    split
    · exact ⟨this.1, this.2.2⟩
    · exact hz
theorem KAsk_of {W : World} {cs : List Value} {x : Int × ByteArray × ByteArray × List Int × Int × Int × Unit} (H : Has W (.st (.fld (.int .i64) (.fld .str (.fld .str (.fld (.slice (.int .u8)) (.fld (.int .i64) (.fld (.int .i64) .fin))))))) cs x) : ∃ (r : AskP) (v : Value), cs = askC r v ∧ r.Ok ∧ Rd W (fun k => k < W.heap.size) v r.body.length (Disk.bytes8 r.body) := by
  obtain ⟨k0, s1, s2, l, n1, n2, u⟩ := x
  obtain ⟨c0, r0, rfl, _, ⟨rfl, _⟩, c1, r1, rfl, _, ⟨rfl, _⟩, c2, r2, rfl, _, ⟨rfl, _⟩, c4, r4, rfl, h4, hb, c5, r5, rfl, _, ⟨rfl, w1⟩, c6, r6, rfl, _, ⟨rfl, w2⟩, rfl⟩ := H
  obtain ⟨v, rfl⟩ : ∃ v, c4 = [v] := by
    cases c4 with
    | nil => cases h4
    | cons v t => cases t with
      | nil => exact ⟨v, rfl⟩
      | cons => cases h4
  have hi : ∀ {n : Int}, (Lit.int .i64 n).wf = true → i64 n := fun h => by
    simp [Lit.wf, IntKind.min, IntKind.max, IntKind.signed, IntKind.bits] at h
    unfold i64; omega
  refine ⟨⟨k0, bytesOf s1, bytesOf s2, l, n1, n2⟩, v, ?_, ⟨bytesOf_byte _, bytesOf_byte _, byte_in hb, hi w1, hi w2⟩, Has.bytes hb |>.1⟩
  unfold askC
  simp only [← str_of]
  rfl
theorem print_back {a : AskP} {x : ReqP} (h : printP a = (x, 0)) : (parseP x).1 = a := by
  unfold printP at h
  split at h
  · simp at h
  · split at h
    · rename_i hc
      simp only [Prod.mk.injEq] at h
      rw [← h.1]; exact hc.2
    · simp at h
end Go.Proofs.Ytibegbmehpggbaa
