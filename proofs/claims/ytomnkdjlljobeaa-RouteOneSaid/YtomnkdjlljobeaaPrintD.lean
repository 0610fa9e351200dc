/-
  Requests that ask: the document's Print.
-/
import Derived.Test.YtomnkdjlljobeaaPrintG
namespace Go.Proofs.Ytomnkdjlljobeaa
open Go.RowKit Go.Canon Go.Mem
set_option linter.unusedVariables false
set_option linter.unusedSimpArgs false
theorem formK_1 : formK 1 = some ⟨⟨#[117, 112, 108, 111, 97, 100, 115]⟩, 1, false, sPUT, 1⟩ := by kernel_rfl
theorem tgt_1 (a : AskP) : str (reqG ⟨⟨#[117, 112, 108, 111, 97, 100, 115]⟩, 1, false, sPUT, 1⟩ a).target = (⟨#[47, 117, 112, 108, 111, 97, 100, 115, 47]⟩ : ByteArray) ++ (str a.name) := by
  show str (tgtG ⟨#[117, 112, 108, 111, 97, 100, 115]⟩ false a 1) = str [47, 117, 112, 108, 111, 97, 100, 115, 47] ++ (str a.name)
  rw [str_app]
  congr 1 <;> simp [tgtG, bytesOf, pieceG]
theorem formK_2 : formK 2 = some ⟨⟨#[104, 105, 115, 116, 111, 114, 105, 101, 115]⟩, 1, false, sPOST, 2⟩ := by kernel_rfl
theorem tgt_2 (a : AskP) : str (reqG ⟨⟨#[104, 105, 115, 116, 111, 114, 105, 101, 115]⟩, 1, false, sPOST, 2⟩ a).target = (⟨#[47, 104, 105, 115, 116, 111, 114, 105, 101, 115, 47]⟩ : ByteArray) ++ (str a.name) := by
  show str (tgtG ⟨#[104, 105, 115, 116, 111, 114, 105, 101, 115]⟩ false a 1) = str [47, 104, 105, 115, 116, 111, 114, 105, 101, 115, 47] ++ (str a.name)
  rw [str_app]
  congr 1 <;> simp [tgtG, bytesOf, pieceG]
theorem formK_3 : formK 3 = some ⟨⟨#[115, 112, 101, 99, 115]⟩, 1, false, sPUT, 3⟩ := by kernel_rfl
theorem tgt_3 (a : AskP) : str (reqG ⟨⟨#[115, 112, 101, 99, 115]⟩, 1, false, sPUT, 3⟩ a).target = (⟨#[47, 115, 112, 101, 99, 115, 47]⟩ : ByteArray) ++ (str a.name) := by
  show str (tgtG ⟨#[115, 112, 101, 99, 115]⟩ false a 1) = str [47, 115, 112, 101, 99, 115, 47] ++ (str a.name)
  rw [str_app]
  congr 1 <;> simp [tgtG, bytesOf, pieceG]
theorem formK_4 : formK 4 = some ⟨⟨#[106, 111, 98, 115]⟩, 2, false, sPOST, 4⟩ := by kernel_rfl
theorem tgt_4 (a : AskP) : str (reqG ⟨⟨#[106, 111, 98, 115]⟩, 2, false, sPOST, 4⟩ a).target = (⟨#[47, 106, 111, 98, 115, 47]⟩ : ByteArray) ++ (str a.name) ++ (⟨#[47]⟩ : ByteArray) ++ (str a.spec) := by
  show str (tgtG ⟨#[106, 111, 98, 115]⟩ false a 2) = str [47, 106, 111, 98, 115, 47] ++ (str a.name) ++ str [47] ++ (str a.spec)
  rw [str_app, str_app, str_app]
  congr 1 <;> simp [tgtG, bytesOf, pieceG]
theorem formK_5 : formK 5 = some ⟨⟨#[106, 111, 98, 115]⟩, 1, true, sGET, 5⟩ := by kernel_rfl
theorem tgt_5 (a : AskP) : str (reqG ⟨⟨#[106, 111, 98, 115]⟩, 1, true, sGET, 5⟩ a).target = (⟨#[47, 106, 111, 98, 115, 47]⟩ : ByteArray) ++ (str (decF a.a)) := by
  show str (tgtG ⟨#[106, 111, 98, 115]⟩ true a 1) = str [47, 106, 111, 98, 115, 47] ++ (str (decF a.a))
  rw [str_app]
  congr 1 <;> simp [tgtG, bytesOf, pieceG]
theorem formK_10 : formK 10 = some ⟨⟨#[104, 101, 97, 100]⟩, 0, false, sGET, 10⟩ := by kernel_rfl
theorem tgt_10 (a : AskP) : str (reqG ⟨⟨#[104, 101, 97, 100]⟩, 0, false, sGET, 10⟩ a).target = (⟨#[47, 104, 101, 97, 100]⟩ : ByteArray) := by
  show str (tgtG ⟨#[104, 101, 97, 100]⟩ false a 0) = str [47, 104, 101, 97, 100]
  congr 1 <;> simp [tgtG, bytesOf, pieceG]
theorem formK_6 : formK 6 = some ⟨⟨#[104, 101, 97, 100, 115]⟩, 1, true, sGET, 6⟩ := by kernel_rfl
theorem tgt_6 (a : AskP) : str (reqG ⟨⟨#[104, 101, 97, 100, 115]⟩, 1, true, sGET, 6⟩ a).target = (⟨#[47, 104, 101, 97, 100, 115, 47]⟩ : ByteArray) ++ (str (decF a.a)) := by
  show str (tgtG ⟨#[104, 101, 97, 100, 115]⟩ true a 1) = str [47, 104, 101, 97, 100, 115, 47] ++ (str (decF a.a))
  rw [str_app]
  congr 1 <;> simp [tgtG, bytesOf, pieceG]
theorem formK_7 : formK 7 = some ⟨⟨#[101, 110, 116, 114, 105, 101, 115]⟩, 2, true, sGET, 7⟩ := by kernel_rfl
theorem tgt_7 (a : AskP) : str (reqG ⟨⟨#[101, 110, 116, 114, 105, 101, 115]⟩, 2, true, sGET, 7⟩ a).target = (⟨#[47, 101, 110, 116, 114, 105, 101, 115, 47]⟩ : ByteArray) ++ (str (decF a.a)) ++ (⟨#[47]⟩ : ByteArray) ++ (str (decF a.b)) := by
  show str (tgtG ⟨#[101, 110, 116, 114, 105, 101, 115]⟩ true a 2) = str [47, 101, 110, 116, 114, 105, 101, 115, 47] ++ (str (decF a.a)) ++ str [47] ++ (str (decF a.b))
  rw [str_app, str_app, str_app]
  congr 1 <;> simp [tgtG, bytesOf, pieceG]
theorem formK_8 : formK 8 = some ⟨⟨#[103, 114, 111, 119, 116, 104]⟩, 2, true, sGET, 8⟩ := by kernel_rfl
theorem tgt_8 (a : AskP) : str (reqG ⟨⟨#[103, 114, 111, 119, 116, 104]⟩, 2, true, sGET, 8⟩ a).target = (⟨#[47, 103, 114, 111, 119, 116, 104, 47]⟩ : ByteArray) ++ (str (decF a.a)) ++ (⟨#[47]⟩ : ByteArray) ++ (str (decF a.b)) := by
  show str (tgtG ⟨#[103, 114, 111, 119, 116, 104]⟩ true a 2) = str [47, 103, 114, 111, 119, 116, 104, 47] ++ (str (decF a.a)) ++ str [47] ++ (str (decF a.b))
  rw [str_app, str_app, str_app]
  congr 1 <;> simp [tgtG, bytesOf, pieceG]
theorem formK_9 : formK 9 = some ⟨⟨#[117, 115, 97, 103, 101]⟩, 0, false, sGET, 9⟩ := by kernel_rfl
theorem tgt_9 (a : AskP) : str (reqG ⟨⟨#[117, 115, 97, 103, 101]⟩, 0, false, sGET, 9⟩ a).target = (⟨#[47, 117, 115, 97, 103, 101]⟩ : ByteArray) := by
  show str (tgtG ⟨#[117, 115, 97, 103, 101]⟩ false a 0) = str [47, 117, 115, 97, 103, 101]
  congr 1 <;> simp [tgtG, bytesOf, pieceG]
theorem print_pack {a : AskP} (ha : a.Ok) (hl1 : a.name.length ≤ 30) (hl2 : a.spec.length ≤ 30) (hl3 : a.body.length ≤ 4200) {g : FormP} (hk : formK a.kind = some g) : (reqG g a).Ok ∧ (reqG g a).target.length ≤ 100 ∧ (reqG g a).body.length ≤ 4200 := by
  obtain ⟨hf, hp⟩ := first_len g (formK_mem hk).1
  refine ⟨⟨bytesOf_byte _, tgt_byte _ _ ha _, IsB.nil, ?_⟩, ?_, ?_⟩
  · unfold reqG; simp only; split
    · exact ha.body
    · exact IsB.nil
  · have := tgt_len hf g.numbers a hl1 hl2 g.pieces
    show (tgtG g.first g.numbers a g.pieces).length ≤ 100
    omega
  · unfold reqG; simp only; split
    · exact hl3
    · simp
theorem liveN : parseP ⟨[71, 69, 84], [], [], []⟩ = (zeroA, 404) := by kernel_rfl
theorem formK_no {k : Int} (h : ¬ (1 ≤ k ∧ k ≤ 10)) : formK k = none := by
  apply List.find?_eq_none.2
  intro g hg
  have : 1 ≤ g.kind ∧ g.kind ≤ 10 := by
    simp only [formsL, List.mem_cons, List.not_mem_nil, or_false] at hg
    rcases hg with rfl | rfl | rfl | rfl | rfl | rfl | rfl | rfl | rfl | rfl <;> decide
  simp only [beq_iff_eq]
  omega
theorem build_put (m s : ByteArray) (A : Option Addr) (n c : Nat) (w : World) : (Instr.build 55 #[(0, .string m), (1, .string s), (3, .slice A n c)]).run Try.prog w = .ok (.agg #[.string m, .string s, .string ⟨#[]⟩, .slice A n c]) w := by kernel_rfl
set_option maxHeartbeats 12800000 in
set_option maxRecDepth 100000 in
theorem rprint23_c {w : World} {ok : Nat → Prop} (a : AskP) (ha : a.Ok) (hl1 : a.name.length ≤ 30) (hl2 : a.spec.length ≤ 30) (hl3 : a.body.length ≤ 4200) (v : Value) (h1 : Rd w ok v a.body.length (Disk.bytes8 a.body)) : Calls Try.prog 34 #[askV a v] w (Rets (PrintPost w (printP a))) := by
  obtain ⟨A, c, rfl, _⟩ := h1.slice
  have HR := Lib.hid h1.lt
  have HA := Lib.hid ha
  have HDa := Lib.hid (fun w => rdec64_c a.a ha.ka.1 ha.ka.2 w)
  have HDb := Lib.hid (fun w => rdec64_c a.b ha.kb.1 ha.kb.2 w)
  have za : (str (decF a.a)).size ≤ 31 := by rw [str_size]; exact dec_len _
  have zb : (str (decF a.b)).size ≤ 31 := by rw [str_size]; exact dec_len _
  have zn : (str a.name).size ≤ 30 := by rw [str_size]; exact hl1
  have zs : (str a.spec).size ≤ 30 := by rw [str_size]; exact hl2
  clear h1
  unfold askV askC
  obtain ⟨sa, hsa⟩ : ∃ sa, str (decF a.a) = sa := ⟨_, rfl⟩
  obtain ⟨sb, hsb⟩ : ∃ sb, str (decF a.b) = sb := ⟨_, rfl⟩
  rw [hsa] at HDa za
  rw [hsb] at HDb zb
  have HSa := Lib.hid hsa
  have HSb := Lib.hid hsb
  clear hsa hsb
  go_enter Try.func34, Try.ntmps34
  go_wp2
  refine name_ fun w1 hw1 => ?_
  obtain ⟨hb0, hb1, hbx, hk1, hs1⟩ := alloc3 hw1
  clear hw1
  refine Canon.region [2] [(⟨w.heap.size, 5, none⟩, .int .i64 a.b)] [(4, 0)] (.hold [0, 3, 1, 4] (.loud 2 (.seg [5, 6, 7] .stop))) (by kernel_rfl) (by kernel_rfl) (by repeat (first | (with_reducible exact Safe.body) | (with_reducible apply Safe.then) | (with_reducible apply Safe.inBlock) | (dsimp +zetaDelta only))) ?_
  simp only [Canon.pick, Canon.wpPlan, List.getElem?_toArray, List.getElem?_cons_zero, List.getElem?_cons_succ]
  have KD : Keeps (fun _ => False) w1 w1.drew := (Keeps.refl _ w1).drew
  have hb0 : w1.drew.heap[w.heap.size]? = some (.cells (askC a (.slice A a.body.length c)).toArray 58 (0, 0)) := KD.heap hb0 (fun h => h)
  have H1 := Lib.hid (KD.heap hb1 (fun h => h))
  have HX0 := Lib.hid (KD.heap hbx (fun h => h))
  have HK := Lib.hid (hk1.trans KD (fun _ _ h => h))
  have hz : w.heap.size + 3 ≤ w1.drew.heap.size := by have : w1.drew.heap.size = w1.heap.size := rfl
                                                      omega
  have H0 := Lib.hid hb0
  clear KD hb0 hb1 hbx hk1 hs1
  generalize w1.drew = wd at *
  have a0 : wd.cell? ⟨w.heap.size, 0, none⟩ = some (.int .i64 a.kind) := (cell_of_row wd _ 0 _ _ _ H0.out).trans rfl
  have a1 : wd.cell? ⟨w.heap.size, 1, none⟩ = some (.string (str a.name)) := (cell_of_row wd _ 1 _ _ _ H0.out).trans rfl
  have a2 : wd.cell? ⟨w.heap.size, 2, none⟩ = some (.string (str a.spec)) := (cell_of_row wd _ 2 _ _ _ H0.out).trans rfl
  have a3 : wd.cell? ⟨w.heap.size, 3, none⟩ = some (.slice A a.body.length c) := (cell_of_row wd _ 3 _ _ _ H0.out).trans rfl
  have a4 : wd.cell? ⟨w.heap.size, 4, none⟩ = some (.int .i64 a.a) := (cell_of_row wd _ 4 _ _ _ H0.out).trans rfl
  have a5 : wd.cell? ⟨w.heap.size, 5, none⟩ = some (.int .i64 a.b) := (cell_of_row wd _ 5 _ _ _ H0.out).trans rfl
  have HL := Lib.hid (show Cells [(⟨w.heap.size, 5, none⟩, Value.int .i64 a.b)] wd by
    intro p hp
    rw [List.mem_singleton] at hp
    subst hp
    exact a5)
  refine ⟨HL.out, ?_⟩
  go_wp2_with (go_at_call 48; go_loud (refine Rets.use (HDa.out _) ?_); rintro _ _ ⟨rfl, rfl⟩)
  refine ⟨HL.out, ?_⟩
  go_wp2_with (go_at_call 48; go_loud (refine Rets.use (HDb.out _) ?_); rintro _ _ ⟨rfl, rfl⟩)
  refine ⟨by rfl, ⟨fun _ => rfl, trivial⟩, ?_⟩
  clear HL
  by_cases hk1 : a.kind = 1
  · rw [hk1] at a0
    have HGk := Lib.hid (show formK a.kind = some ⟨⟨#[117, 112, 108, 111, 97, 100, 115]⟩, 1, false, sPUT, 1⟩ by rw [hk1]; exact formK_1)
    have hxt : str (reqG ⟨⟨#[117, 112, 108, 111, 97, 100, 115]⟩, 1, false, sPUT, 1⟩ a).target = (⟨#[47, 117, 112, 108, 111, 97, 100, 115, 47]⟩ : ByteArray) ++ (str a.name) := by rw [tgt_1]
    have hxm : str (reqG ⟨⟨#[117, 112, 108, 111, 97, 100, 115]⟩, 1, false, sPUT, 1⟩ a).method = sPUT := (str_of _).symm
    have hxb : (reqG ⟨⟨#[117, 112, 108, 111, 97, 100, 115]⟩, 1, false, sPUT, 1⟩ a).body = a.body := by unfold reqG; simp only; first | rfl | (rw [show (sPUT.toList == [80, 85, 84]) = true by rw [ByteArray.toList_eq]; rfl]; rfl)
    clear hk1
    have hpk := print_pack ha hl1 hl2 hl3 HGk.out
    have HPP := Lib.hid (show printP a = if (parseP (reqG ⟨⟨#[117, 112, 108, 111, 97, 100, 115]⟩, 1, false, sPUT, 1⟩ a)).2 = 200 ∧ (parseP (reqG ⟨⟨#[117, 112, 108, 111, 97, 100, 115]⟩, 1, false, sPUT, 1⟩ a)).1 = a then (reqG ⟨⟨#[117, 112, 108, 111, 97, 100, 115]⟩, 1, false, sPUT, 1⟩ a, 0) else (zeroR, 2) by unfold printP; rw [HGk.out])
    have HXV := Lib.hid (fun u => show reqV (reqG ⟨⟨#[117, 112, 108, 111, 97, 100, 115]⟩, 1, false, sPUT, 1⟩ a) u = .agg #[.string sPUT, .string ((⟨#[47, 117, 112, 108, 111, 97, 100, 115, 47]⟩ : ByteArray) ++ (str a.name)), .string ⟨#[]⟩, u] by unfold reqV; rw [hxm, hxt]; rfl)
    have HXp := Lib.hid (fun (w : World) (ok : Nat → Prop) u h => rparse23_c (w := w) (ok := ok) (reqG ⟨⟨#[117, 112, 108, 111, 97, 100, 115]⟩, 1, false, sPUT, 1⟩ a) hpk.1 (by have := hpk.2.1; omega) (by have := hpk.2.2; omega) u h)
    obtain ⟨hqo, hql⟩ := parseP_ok hpk.1
    have hql : (parseP (reqG ⟨⟨#[117, 112, 108, 111, 97, 100, 115]⟩, 1, false, sPUT, 1⟩ a)).1.body.length ≤ 4200 := by have := hpk.2.2; omega
    clear hxt hxm hpk HGk
    generalize reqG ⟨⟨#[117, 112, 108, 111, 97, 100, 115]⟩, 1, false, sPUT, 1⟩ a = X at *
    generalize parseP X = pr at *
    obtain ⟨q, code⟩ := pr
    simp only at HPP hqo hql
    have HSm := Lib.hid (fun (w : World) (ok ok2 : Nat → Prop) v u h1 h2 => same23_c (w := w) (ok := ok) (ok2 := ok2) a q ha hqo v u h1 h2 (by omega))
    go_wp2
    refine Canon.region [5] [(⟨w.heap.size, 1, none⟩, .string (str a.name))] [(1, 0)] (.hold [0, 3, 4, 1, 2] (.loud 5 (.seg [6, 7] .stop))) (by kernel_rfl) (by kernel_rfl) (by repeat (first | (with_reducible exact Safe.body) | (with_reducible apply Safe.then) | (with_reducible apply Safe.inBlock) | (dsimp +zetaDelta only))) ?_
    simp only [Canon.pick, Canon.wpPlan, List.getElem?_toArray, List.getElem?_cons_zero, List.getElem?_cons_succ]
    have KD : Keeps (fun _ => False) wd wd.drew := (Keeps.refl _ wd).drew
    have H0 := Lib.hid (KD.heap H0.out (fun h => h))
    have H1 := Lib.hid (KD.heap H1.out (fun h => h))
    have HX0 := Lib.hid (KD.heap HX0.out (fun h => h))
    have HK := Lib.hid (HK.out.trans KD (fun _ _ h => h))
    have a1 := KD.cell a1 (fun h => h)
    have a3 := KD.cell a3 (fun h => h)
    have hz : w.heap.size + 3 ≤ wd.drew.heap.size := hz
    clear KD
    generalize wd.drew = wd at *
    have HL := Lib.hid (show Cells [(⟨w.heap.size, 1, none⟩, Value.string (str a.name))] wd by intro p hp; rw [List.mem_singleton] at hp; subst hp; exact a1)
    refine ⟨HL.out, ?_⟩
    go_wp2_with (go_at_call 13; go_loud (refine Rets.use (copy_c _ a.body (HR.out.kept HK.out (fun _ _ h => h)) (by omega)) ?_); rintro v71 w71 ⟨hO71, hk71⟩)
    obtain ⟨Ab, cb, rfl, _⟩ := hO71.slice
    refine ⟨fun p hp => hk71.cell (HL.out p hp) (fun h => h), ?_⟩
    go_wp2_with ((with_reducible refine at_store 55 (.tmp 4) (.tmp 26) rfl ?_); go_must (refine step_store rfl _ _ _ rfl (w.heap.size + 1 + 1) 0 [.string sPUT, .string ((⟨#[47, 117, 112, 108, 111, 97, 100, 115, 47]⟩ : ByteArray) ++ (str a.name)), .string ⟨#[]⟩, .slice Ab a.body.length cb] _ _ rfl rfl (hk71.heap HX0.out (fun h => h)) (by simp) info_req (by simp [Value.oneCell']) ?_); intro w7 hb7 hk7 hs7)
    rw [put_whole (by rfl)] at hb7
    refine ⟨by rfl, ⟨fun _ => rfl, trivial⟩, ?_⟩
    have KX := (hk71.mono (S' := (· = w.heap.size + 1 + 1)) (fun _ _ h => h.elim)).trans hk7 (fun _ _ h => h)
    have hbX : w7.heap[w.heap.size + 1 + 1]? = some (.cells [.string sPUT, .string ((⟨#[47, 117, 112, 108, 111, 97, 100, 115, 47]⟩ : ByteArray) ++ (str a.name)), .string ⟨#[]⟩, .slice Ab a.body.length cb].toArray 55 (0, 0)) := hb7
    have hOX : OwnRow w7 (fun k => w.heap.size + 1 + 1 < k) 5 1 (.slice Ab a.body.length cb) X.body.length (Disk.bytes8 X.body) := by rw [hxb]; exact (hO71.kept hk7 (fun k h h' => by omega)).mono (fun k hk h => by omega)
    by_cases hc : code = 200
    · subst hc
      have hcb : ((200 : Int) != 200) = false := rfl
      by_cases hq : a = q
      · have HF := Lib.hid (show printP a = (X, 0) by rw [HPP.out, if_pos ⟨rfl, hq.symm⟩])
        rw [decide_eq_true hq] at HSm
        clear hq HPP
        go_wp2_with (first
          | ((with_reducible refine at_ 98 rfl ?_); go_must (refine step_load rfl _ _ rfl (w.heap.size + 1 + 1) 0 [.string sPUT, .string ((⟨#[47, 117, 112, 108, 111, 97, 100, 115, 47]⟩ : ByteArray) ++ (str a.name)), .string ⟨#[]⟩, .slice Ab a.body.length cb] _ _ (0, 0) _ rfl hbx10 rfl Try.underlying55 rfl info_req ?_))
          | ((with_reducible refine at_store 55 (.tmp 2) (.tmp 98) rfl ?_); go_must (refine step_store rfl _ _ _ rfl (w.heap.size + 1) 0 [.string sPUT, .string ((⟨#[47, 117, 112, 108, 111, 97, 100, 115, 47]⟩ : ByteArray) ++ (str a.name)), .string ⟨#[]⟩, .slice Ab a.body.length cb] _ _ rfl rfl hb1z (by simp) info_req (by simp [Value.oneCell']) ?_); intro w12 hb12 hk12 hs12)
          | (go_at_call 29; go_loud (refine Rets.use (HSm.out w10 _ _ _ _ hR10a hR10q) ?_); rintro _ w11 ⟨rfl, hk11⟩; have hb1z := hk11.heap hb1z (fun h => h); have hbx10 := hk11.heap hbx10 (fun h => h); have K10 := K10.trans hk11 (fun _ _ h => h.elim); have hO10x := hO10x.kept hk11 (fun _ _ h => h))
          | ((with_reducible refine at_ 93 rfl ?_); go_must (refine step_load rfl _ _ rfl w8.heap.size 0 (askC q (.slice A8 q.body.length c8)) _ _ (0, 0) _ rfl hb10 rfl Try.underlying58 rfl (info_askC _ _) ?_))
          | ((with_reducible refine at_ 92 rfl ?_); go_must (refine step_load rfl _ _ rfl w.heap.size 0 (askC a (.slice A a.body.length c)) _ _ (0, 0) _ rfl h010 rfl Try.underlying58 rfl (info_askC _ _) ?_))
          | ((with_reducible refine at_store 58 (.tmp 7) (.tmp 87) rfl ?_); go_must (refine step_store rfl _ _ _ rfl w8.heap.size 0 (askC q (.slice A8 q.body.length c8)) _ _ rfl rfl hb9 (by simp [askC_len]) (info_askC _ _) (by simp [askC, Value.oneCell']) ?_); intro w10 hb10 hk10 hs10; rw [put_whole (by rfl)] at hb10; have K910 := hk9.trans hk10 (fun k hk h => by omega); have K710 := hk8.trans K910 (fun _ _ h => h); have K10 := KX.trans K710 (fun _ _ h => h.elim); have hbx10 := K710.heap hbX (fun h => h); have hO10x := hOX.kept K710 (fun _ _ h => h); have hb1z := K10.heap H1.out (fun h => by omega); have h010 := K10.heap H0.out (fun h => by omega); have hR10q := hO8.rd.kept K910 (fun _ _ h => h); have hR10a := HR.out.kept (HK.out.trans K10 (fun k hk h => by omega)) (fun _ _ h => h))
          | ((with_reducible refine at_ 7 rfl ?_); go_must (refine step_alloc rfl _ rfl _ (askC zeroA (.slice none 0 0)) row_ask rfl ?_); intro w9 hb9 hk9 hs9)
          | (go_at_call 28; go_loud (rw [← HXV.out]); go_loud (refine Rets.use (HXp.out _ _ _ hOX.rd) ?_); rintro _ w8 ⟨hk8, u8, rfl, hO8⟩; obtain ⟨A8, c8, rfl, _⟩ := hO8.slice)
          | ((with_reducible refine at_ 85 rfl ?_); go_must (refine step_load rfl _ _ rfl (w.heap.size + 1 + 1) 0 [.string sPUT, .string ((⟨#[47, 117, 112, 108, 111, 97, 100, 115, 47]⟩ : ByteArray) ++ (str a.name)), .string ⟨#[]⟩, .slice Ab a.body.length cb] _ _ (0, 0) _ rfl hbX rfl Try.underlying55 rfl info_req ?_)))
        rw [put_whole (by rfl)] at hb12
        refine bodyPost_ret (ret_cell_tmp rfl [.string sPUT, .string ((⟨#[47, 117, 112, 108, 111, 97, 100, 115, 47]⟩ : ByteArray) ++ (str a.name)), .string ⟨#[]⟩, .slice Ab a.body.length cb] _ rfl hb12 Try.underlying55 rfl info_req) rfl ?_
        rw [HF.out]
        refine ⟨(HK.out.trans K10 (fun k hk h => by omega)).trans hk12 (fun _ hk h => by omega), .slice Ab a.body.length cb, by rw [HXV.out] <;> rfl, ?_⟩
        exact (hO10x.kept hk12 (fun k h h' => by omega)).mono (fun k hk h => by omega)
      · have HF := Lib.hid (show printP a = (zeroR, 2) by rw [HPP.out, if_neg (fun h => hq h.2.symm)])
        rw [decide_eq_false hq] at HSm
        clear hq HPP
        go_wp2_with (first
          | ((with_reducible refine at_ 97 rfl ?_); go_must (refine step_build rfl 55 _ rfl [] rfl _ build_req0 ?_))
          | ((with_reducible refine at_store 55 (.tmp 2) (.tmp 97) rfl ?_); go_must (refine step_store rfl _ _ _ rfl (w.heap.size + 1) 0 [.string ⟨#[]⟩, .string ⟨#[]⟩, .string ⟨#[]⟩, .slice none 0 0] _ _ rfl rfl hb1z (by simp) info_req (by simp [Value.oneCell']) ?_); intro w12 hb12 hk12 hs12)
          | (go_at_call 29; go_loud (refine Rets.use (HSm.out w10 _ _ _ _ hR10a hR10q) ?_); rintro _ w11 ⟨rfl, hk11⟩; have hb1z := hk11.heap hb1z (fun h => h); have hbx10 := hk11.heap hbx10 (fun h => h); have K10 := K10.trans hk11 (fun _ _ h => h.elim); have hO10x := hO10x.kept hk11 (fun _ _ h => h))
          | ((with_reducible refine at_ 93 rfl ?_); go_must (refine step_load rfl _ _ rfl w8.heap.size 0 (askC q (.slice A8 q.body.length c8)) _ _ (0, 0) _ rfl hb10 rfl Try.underlying58 rfl (info_askC _ _) ?_))
          | ((with_reducible refine at_ 92 rfl ?_); go_must (refine step_load rfl _ _ rfl w.heap.size 0 (askC a (.slice A a.body.length c)) _ _ (0, 0) _ rfl h010 rfl Try.underlying58 rfl (info_askC _ _) ?_))
          | ((with_reducible refine at_store 58 (.tmp 7) (.tmp 87) rfl ?_); go_must (refine step_store rfl _ _ _ rfl w8.heap.size 0 (askC q (.slice A8 q.body.length c8)) _ _ rfl rfl hb9 (by simp [askC_len]) (info_askC _ _) (by simp [askC, Value.oneCell']) ?_); intro w10 hb10 hk10 hs10; rw [put_whole (by rfl)] at hb10; have K910 := hk9.trans hk10 (fun k hk h => by omega); have K710 := hk8.trans K910 (fun _ _ h => h); have K10 := KX.trans K710 (fun _ _ h => h.elim); have hbx10 := K710.heap hbX (fun h => h); have hO10x := hOX.kept K710 (fun _ _ h => h); have hb1z := K10.heap H1.out (fun h => by omega); have h010 := K10.heap H0.out (fun h => by omega); have hR10q := hO8.rd.kept K910 (fun _ _ h => h); have hR10a := HR.out.kept (HK.out.trans K10 (fun k hk h => by omega)) (fun _ _ h => h))
          | ((with_reducible refine at_ 7 rfl ?_); go_must (refine step_alloc rfl _ rfl _ (askC zeroA (.slice none 0 0)) row_ask rfl ?_); intro w9 hb9 hk9 hs9)
          | (go_at_call 28; go_loud (rw [← HXV.out]); go_loud (refine Rets.use (HXp.out _ _ _ hOX.rd) ?_); rintro _ w8 ⟨hk8, u8, rfl, hO8⟩; obtain ⟨A8, c8, rfl, _⟩ := hO8.slice)
          | ((with_reducible refine at_ 85 rfl ?_); go_must (refine step_load rfl _ _ rfl (w.heap.size + 1 + 1) 0 [.string sPUT, .string ((⟨#[47, 117, 112, 108, 111, 97, 100, 115, 47]⟩ : ByteArray) ++ (str a.name)), .string ⟨#[]⟩, .slice Ab a.body.length cb] _ _ (0, 0) _ rfl hbX rfl Try.underlying55 rfl info_req ?_)))
        rw [put_whole (by rfl)] at hb12
        refine bodyPost_ret (ret_cell_tmp rfl [.string ⟨#[]⟩, .string ⟨#[]⟩, .string ⟨#[]⟩, .slice none 0 0] _ rfl hb12 Try.underlying55 rfl info_req) rfl ?_
        rw [HF.out]
        exact ⟨(HK.out.trans K10 (fun k hk h => by omega)).trans hk12 (fun _ hk h => by omega), _, rfl, OwnRow.nil _ _ _ _⟩
    · have HF := Lib.hid (show printP a = (zeroR, 2) by rw [HPP.out, if_neg (fun h => hc h.1)])
      have hcb : (code != 200) = true := by simpa using hc
      clear hc HPP
      go_wp2_with (first
        | ((with_reducible refine at_ 97 rfl ?_); go_must (refine step_build rfl 55 _ rfl [] rfl _ build_req0 ?_))
        | ((with_reducible refine at_store 55 (.tmp 2) (.tmp 97) rfl ?_); go_must (refine step_store rfl _ _ _ rfl (w.heap.size + 1) 0 [.string ⟨#[]⟩, .string ⟨#[]⟩, .string ⟨#[]⟩, .slice none 0 0] _ _ rfl rfl hb1z (by simp) info_req (by simp [Value.oneCell']) ?_); intro w12 hb12 hk12 hs12)
        | ((with_reducible refine at_store 58 (.tmp 7) (.tmp 87) rfl ?_); go_must (refine step_store rfl _ _ _ rfl w8.heap.size 0 (askC q (.slice A8 q.body.length c8)) _ _ rfl rfl hb9 (by simp [askC_len]) (info_askC _ _) (by simp [askC, Value.oneCell']) ?_); intro w10 hb10 hk10 hs10; rw [put_whole (by rfl)] at hb10; have K910 := hk9.trans hk10 (fun k hk h => by omega); have K710 := hk8.trans K910 (fun _ _ h => h); have K10 := KX.trans K710 (fun _ _ h => h.elim); have hbx10 := K710.heap hbX (fun h => h); have hO10x := hOX.kept K710 (fun _ _ h => h); have hb1z := K10.heap H1.out (fun h => by omega); have h010 := K10.heap H0.out (fun h => by omega); have hR10q := hO8.rd.kept K910 (fun _ _ h => h); have hR10a := HR.out.kept (HK.out.trans K10 (fun k hk h => by omega)) (fun _ _ h => h))
        | ((with_reducible refine at_ 7 rfl ?_); go_must (refine step_alloc rfl _ rfl _ (askC zeroA (.slice none 0 0)) row_ask rfl ?_); intro w9 hb9 hk9 hs9)
        | (go_at_call 28; go_loud (rw [← HXV.out]); go_loud (refine Rets.use (HXp.out _ _ _ hOX.rd) ?_); rintro _ w8 ⟨hk8, u8, rfl, hO8⟩; obtain ⟨A8, c8, rfl, _⟩ := hO8.slice)
        | ((with_reducible refine at_ 85 rfl ?_); go_must (refine step_load rfl _ _ rfl (w.heap.size + 1 + 1) 0 [.string sPUT, .string ((⟨#[47, 117, 112, 108, 111, 97, 100, 115, 47]⟩ : ByteArray) ++ (str a.name)), .string ⟨#[]⟩, .slice Ab a.body.length cb] _ _ (0, 0) _ rfl hbX rfl Try.underlying55 rfl info_req ?_)))
      rw [put_whole (by rfl)] at hb12
      refine bodyPost_ret (ret_cell_tmp rfl [.string ⟨#[]⟩, .string ⟨#[]⟩, .string ⟨#[]⟩, .slice none 0 0] _ rfl hb12 Try.underlying55 rfl info_req) rfl ?_
      rw [HF.out]
      exact ⟨(HK.out.trans K10 (fun k hk h => by omega)).trans hk12 (fun _ hk h => by omega), _, rfl, OwnRow.nil _ _ _ _⟩
  · by_cases hk2 : a.kind = 2
    · rw [hk2] at a0
      have HGk := Lib.hid (show formK a.kind = some ⟨⟨#[104, 105, 115, 116, 111, 114, 105, 101, 115]⟩, 1, false, sPOST, 2⟩ by rw [hk2]; exact formK_2)
      have hxt : str (reqG ⟨⟨#[104, 105, 115, 116, 111, 114, 105, 101, 115]⟩, 1, false, sPOST, 2⟩ a).target = (⟨#[47, 104, 105, 115, 116, 111, 114, 105, 101, 115, 47]⟩ : ByteArray) ++ (str a.name) := by rw [tgt_2]
      have hxm : str (reqG ⟨⟨#[104, 105, 115, 116, 111, 114, 105, 101, 115]⟩, 1, false, sPOST, 2⟩ a).method = sPOST := (str_of _).symm
      have hxb : (reqG ⟨⟨#[104, 105, 115, 116, 111, 114, 105, 101, 115]⟩, 1, false, sPOST, 2⟩ a).body = [] := by unfold reqG; simp only; first | rfl | (rw [show (sPOST.toList == [80, 85, 84]) = false by rw [ByteArray.toList_eq]; rfl]; rfl)
      clear hk1
      clear hk2
      have hpk := print_pack ha hl1 hl2 hl3 HGk.out
      have HPP := Lib.hid (show printP a = if (parseP (reqG ⟨⟨#[104, 105, 115, 116, 111, 114, 105, 101, 115]⟩, 1, false, sPOST, 2⟩ a)).2 = 200 ∧ (parseP (reqG ⟨⟨#[104, 105, 115, 116, 111, 114, 105, 101, 115]⟩, 1, false, sPOST, 2⟩ a)).1 = a then (reqG ⟨⟨#[104, 105, 115, 116, 111, 114, 105, 101, 115]⟩, 1, false, sPOST, 2⟩ a, 0) else (zeroR, 2) by unfold printP; rw [HGk.out])
      have HXV := Lib.hid (fun u => show reqV (reqG ⟨⟨#[104, 105, 115, 116, 111, 114, 105, 101, 115]⟩, 1, false, sPOST, 2⟩ a) u = .agg #[.string sPOST, .string ((⟨#[47, 104, 105, 115, 116, 111, 114, 105, 101, 115, 47]⟩ : ByteArray) ++ (str a.name)), .string ⟨#[]⟩, u] by unfold reqV; rw [hxm, hxt]; rfl)
      have HXp := Lib.hid (fun (w : World) (ok : Nat → Prop) u h => rparse23_c (w := w) (ok := ok) (reqG ⟨⟨#[104, 105, 115, 116, 111, 114, 105, 101, 115]⟩, 1, false, sPOST, 2⟩ a) hpk.1 (by have := hpk.2.1; omega) (by have := hpk.2.2; omega) u h)
      obtain ⟨hqo, hql⟩ := parseP_ok hpk.1
      have hql : (parseP (reqG ⟨⟨#[104, 105, 115, 116, 111, 114, 105, 101, 115]⟩, 1, false, sPOST, 2⟩ a)).1.body.length ≤ 4200 := by have := hpk.2.2; omega
      clear hxt hxm hpk HGk
      generalize reqG ⟨⟨#[104, 105, 115, 116, 111, 114, 105, 101, 115]⟩, 1, false, sPOST, 2⟩ a = X at *
      generalize parseP X = pr at *
      obtain ⟨q, code⟩ := pr
      simp only at HPP hqo hql
      have HSm := Lib.hid (fun (w : World) (ok ok2 : Nat → Prop) v u h1 h2 => same23_c (w := w) (ok := ok) (ok2 := ok2) a q ha hqo v u h1 h2 (by omega))
      by_cases hc : code = 200
      · subst hc
        have hcb : ((200 : Int) != 200) = false := rfl
        by_cases hq : a = q
        · have HF := Lib.hid (show printP a = (X, 0) by rw [HPP.out, if_pos ⟨rfl, hq.symm⟩])
          rw [decide_eq_true hq] at HSm
          clear hq HPP
          go_wp2_with (first
            | ((with_reducible refine at_ 98 rfl ?_); go_must (refine step_load rfl _ _ rfl (w.heap.size + 1 + 1) 0 [.string sPOST, .string ((⟨#[47, 104, 105, 115, 116, 111, 114, 105, 101, 115, 47]⟩ : ByteArray) ++ (str a.name)), .string ⟨#[]⟩, .slice none 0 0] _ _ (0, 0) _ rfl hbx10 rfl Try.underlying55 rfl info_req ?_))
            | ((with_reducible refine at_store 55 (.tmp 2) (.tmp 98) rfl ?_); go_must (refine step_store rfl _ _ _ rfl (w.heap.size + 1) 0 [.string sPOST, .string ((⟨#[47, 104, 105, 115, 116, 111, 114, 105, 101, 115, 47]⟩ : ByteArray) ++ (str a.name)), .string ⟨#[]⟩, .slice none 0 0] _ _ rfl rfl hb1z (by simp) info_req (by simp [Value.oneCell']) ?_); intro w12 hb12 hk12 hs12)
            | (go_at_call 29; go_loud (refine Rets.use (HSm.out w10 _ _ _ _ hR10a hR10q) ?_); rintro _ w11 ⟨rfl, hk11⟩; have hb1z := hk11.heap hb1z (fun h => h); have hbx10 := hk11.heap hbx10 (fun h => h); have K10 := K10.trans hk11 (fun _ _ h => h.elim); have hO10x := hO10x.kept hk11 (fun _ _ h => h))
            | ((with_reducible refine at_ 93 rfl ?_); go_must (refine step_load rfl _ _ rfl w8.heap.size 0 (askC q (.slice A8 q.body.length c8)) _ _ (0, 0) _ rfl hb10 rfl Try.underlying58 rfl (info_askC _ _) ?_))
            | ((with_reducible refine at_ 92 rfl ?_); go_must (refine step_load rfl _ _ rfl w.heap.size 0 (askC a (.slice A a.body.length c)) _ _ (0, 0) _ rfl h010 rfl Try.underlying58 rfl (info_askC _ _) ?_))
            | ((with_reducible refine at_store 58 (.tmp 7) (.tmp 87) rfl ?_); go_must (refine step_store rfl _ _ _ rfl w8.heap.size 0 (askC q (.slice A8 q.body.length c8)) _ _ rfl rfl hb9 (by simp [askC_len]) (info_askC _ _) (by simp [askC, Value.oneCell']) ?_); intro w10 hb10 hk10 hs10; rw [put_whole (by rfl)] at hb10; have K910 := hk9.trans hk10 (fun k hk h => by omega); have K710 := hk8.trans K910 (fun _ _ h => h); have K10 := KX.trans K710 (fun _ _ h => h.elim); have hbx10 := K710.heap hbX (fun h => h); have hO10x := hOX.kept K710 (fun _ _ h => h); have hb1z := K10.heap H1.out (fun h => by omega); have h010 := K10.heap H0.out (fun h => by omega); have hR10q := hO8.rd.kept K910 (fun _ _ h => h); have hR10a := HR.out.kept (HK.out.trans K10 (fun k hk h => by omega)) (fun _ _ h => h))
            | ((with_reducible refine at_ 7 rfl ?_); go_must (refine step_alloc rfl _ rfl _ (askC zeroA (.slice none 0 0)) row_ask rfl ?_); intro w9 hb9 hk9 hs9)
            | (go_at_call 28; go_loud (rw [← HXV.out]); go_loud (refine Rets.use (HXp.out _ _ _ hOX.rd) ?_); rintro _ w8 ⟨hk8, u8, rfl, hO8⟩; obtain ⟨A8, c8, rfl, _⟩ := hO8.slice)
            | ((with_reducible refine at_ 85 rfl ?_); go_must (refine step_load rfl _ _ rfl (w.heap.size + 1 + 1) 0 [.string sPOST, .string ((⟨#[47, 104, 105, 115, 116, 111, 114, 105, 101, 115, 47]⟩ : ByteArray) ++ (str a.name)), .string ⟨#[]⟩, .slice none 0 0] _ _ (0, 0) _ rfl hbX rfl Try.underlying55 rfl info_req ?_))
            | ((with_reducible refine at_store 55 (.tmp 4) (.tmp 32) rfl ?_); go_must (refine step_store rfl _ _ _ rfl (w.heap.size + 1 + 1) 0 [.string sPOST, .string ((⟨#[47, 104, 105, 115, 116, 111, 114, 105, 101, 115, 47]⟩ : ByteArray) ++ (str a.name)), .string ⟨#[]⟩, .slice none 0 0] _ _ rfl rfl HX0.out (by simp) info_req (by simp [Value.oneCell']) ?_); intro w7 hb7 hk7 hs7; rw [put_whole (by rfl)] at hb7; have KX := hk7; have hbX : w7.heap[w.heap.size + 1 + 1]? = some (.cells [.string sPOST, .string ((⟨#[47, 104, 105, 115, 116, 111, 114, 105, 101, 115, 47]⟩ : ByteArray) ++ (str a.name)), .string ⟨#[]⟩, .slice none 0 0].toArray 55 (0, 0)) := hb7; have hOX : OwnRow w7 (fun k => w.heap.size + 1 + 1 < k) 5 1 (.slice none 0 0) X.body.length (Disk.bytes8 X.body) := (by rw [hxb]; exact OwnRow.nil _ _ _ _)))
          rw [put_whole (by rfl)] at hb12
          refine bodyPost_ret (ret_cell_tmp rfl [.string sPOST, .string ((⟨#[47, 104, 105, 115, 116, 111, 114, 105, 101, 115, 47]⟩ : ByteArray) ++ (str a.name)), .string ⟨#[]⟩, .slice none 0 0] _ rfl hb12 Try.underlying55 rfl info_req) rfl ?_
          rw [HF.out]
          refine ⟨(HK.out.trans K10 (fun k hk h => by omega)).trans hk12 (fun _ hk h => by omega), .slice none 0 0, by rw [HXV.out] <;> rfl, ?_⟩
          exact (hO10x.kept hk12 (fun k h h' => by omega)).mono (fun k hk h => by omega)
        · have HF := Lib.hid (show printP a = (zeroR, 2) by rw [HPP.out, if_neg (fun h => hq h.2.symm)])
          rw [decide_eq_false hq] at HSm
          clear hq HPP
          go_wp2_with (first
            | ((with_reducible refine at_ 97 rfl ?_); go_must (refine step_build rfl 55 _ rfl [] rfl _ build_req0 ?_))
            | ((with_reducible refine at_store 55 (.tmp 2) (.tmp 97) rfl ?_); go_must (refine step_store rfl _ _ _ rfl (w.heap.size + 1) 0 [.string ⟨#[]⟩, .string ⟨#[]⟩, .string ⟨#[]⟩, .slice none 0 0] _ _ rfl rfl hb1z (by simp) info_req (by simp [Value.oneCell']) ?_); intro w12 hb12 hk12 hs12)
            | (go_at_call 29; go_loud (refine Rets.use (HSm.out w10 _ _ _ _ hR10a hR10q) ?_); rintro _ w11 ⟨rfl, hk11⟩; have hb1z := hk11.heap hb1z (fun h => h); have hbx10 := hk11.heap hbx10 (fun h => h); have K10 := K10.trans hk11 (fun _ _ h => h.elim); have hO10x := hO10x.kept hk11 (fun _ _ h => h))
            | ((with_reducible refine at_ 93 rfl ?_); go_must (refine step_load rfl _ _ rfl w8.heap.size 0 (askC q (.slice A8 q.body.length c8)) _ _ (0, 0) _ rfl hb10 rfl Try.underlying58 rfl (info_askC _ _) ?_))
            | ((with_reducible refine at_ 92 rfl ?_); go_must (refine step_load rfl _ _ rfl w.heap.size 0 (askC a (.slice A a.body.length c)) _ _ (0, 0) _ rfl h010 rfl Try.underlying58 rfl (info_askC _ _) ?_))
            | ((with_reducible refine at_store 58 (.tmp 7) (.tmp 87) rfl ?_); go_must (refine step_store rfl _ _ _ rfl w8.heap.size 0 (askC q (.slice A8 q.body.length c8)) _ _ rfl rfl hb9 (by simp [askC_len]) (info_askC _ _) (by simp [askC, Value.oneCell']) ?_); intro w10 hb10 hk10 hs10; rw [put_whole (by rfl)] at hb10; have K910 := hk9.trans hk10 (fun k hk h => by omega); have K710 := hk8.trans K910 (fun _ _ h => h); have K10 := KX.trans K710 (fun _ _ h => h.elim); have hbx10 := K710.heap hbX (fun h => h); have hO10x := hOX.kept K710 (fun _ _ h => h); have hb1z := K10.heap H1.out (fun h => by omega); have h010 := K10.heap H0.out (fun h => by omega); have hR10q := hO8.rd.kept K910 (fun _ _ h => h); have hR10a := HR.out.kept (HK.out.trans K10 (fun k hk h => by omega)) (fun _ _ h => h))
            | ((with_reducible refine at_ 7 rfl ?_); go_must (refine step_alloc rfl _ rfl _ (askC zeroA (.slice none 0 0)) row_ask rfl ?_); intro w9 hb9 hk9 hs9)
            | (go_at_call 28; go_loud (rw [← HXV.out]); go_loud (refine Rets.use (HXp.out _ _ _ hOX.rd) ?_); rintro _ w8 ⟨hk8, u8, rfl, hO8⟩; obtain ⟨A8, c8, rfl, _⟩ := hO8.slice)
            | ((with_reducible refine at_ 85 rfl ?_); go_must (refine step_load rfl _ _ rfl (w.heap.size + 1 + 1) 0 [.string sPOST, .string ((⟨#[47, 104, 105, 115, 116, 111, 114, 105, 101, 115, 47]⟩ : ByteArray) ++ (str a.name)), .string ⟨#[]⟩, .slice none 0 0] _ _ (0, 0) _ rfl hbX rfl Try.underlying55 rfl info_req ?_))
            | ((with_reducible refine at_store 55 (.tmp 4) (.tmp 32) rfl ?_); go_must (refine step_store rfl _ _ _ rfl (w.heap.size + 1 + 1) 0 [.string sPOST, .string ((⟨#[47, 104, 105, 115, 116, 111, 114, 105, 101, 115, 47]⟩ : ByteArray) ++ (str a.name)), .string ⟨#[]⟩, .slice none 0 0] _ _ rfl rfl HX0.out (by simp) info_req (by simp [Value.oneCell']) ?_); intro w7 hb7 hk7 hs7; rw [put_whole (by rfl)] at hb7; have KX := hk7; have hbX : w7.heap[w.heap.size + 1 + 1]? = some (.cells [.string sPOST, .string ((⟨#[47, 104, 105, 115, 116, 111, 114, 105, 101, 115, 47]⟩ : ByteArray) ++ (str a.name)), .string ⟨#[]⟩, .slice none 0 0].toArray 55 (0, 0)) := hb7; have hOX : OwnRow w7 (fun k => w.heap.size + 1 + 1 < k) 5 1 (.slice none 0 0) X.body.length (Disk.bytes8 X.body) := (by rw [hxb]; exact OwnRow.nil _ _ _ _)))
          rw [put_whole (by rfl)] at hb12
          refine bodyPost_ret (ret_cell_tmp rfl [.string ⟨#[]⟩, .string ⟨#[]⟩, .string ⟨#[]⟩, .slice none 0 0] _ rfl hb12 Try.underlying55 rfl info_req) rfl ?_
          rw [HF.out]
          exact ⟨(HK.out.trans K10 (fun k hk h => by omega)).trans hk12 (fun _ hk h => by omega), _, rfl, OwnRow.nil _ _ _ _⟩
      · have HF := Lib.hid (show printP a = (zeroR, 2) by rw [HPP.out, if_neg (fun h => hc h.1)])
        have hcb : (code != 200) = true := by simpa using hc
        clear hc HPP
        go_wp2_with (first
          | ((with_reducible refine at_ 97 rfl ?_); go_must (refine step_build rfl 55 _ rfl [] rfl _ build_req0 ?_))
          | ((with_reducible refine at_store 55 (.tmp 2) (.tmp 97) rfl ?_); go_must (refine step_store rfl _ _ _ rfl (w.heap.size + 1) 0 [.string ⟨#[]⟩, .string ⟨#[]⟩, .string ⟨#[]⟩, .slice none 0 0] _ _ rfl rfl hb1z (by simp) info_req (by simp [Value.oneCell']) ?_); intro w12 hb12 hk12 hs12)
          | ((with_reducible refine at_store 58 (.tmp 7) (.tmp 87) rfl ?_); go_must (refine step_store rfl _ _ _ rfl w8.heap.size 0 (askC q (.slice A8 q.body.length c8)) _ _ rfl rfl hb9 (by simp [askC_len]) (info_askC _ _) (by simp [askC, Value.oneCell']) ?_); intro w10 hb10 hk10 hs10; rw [put_whole (by rfl)] at hb10; have K910 := hk9.trans hk10 (fun k hk h => by omega); have K710 := hk8.trans K910 (fun _ _ h => h); have K10 := KX.trans K710 (fun _ _ h => h.elim); have hbx10 := K710.heap hbX (fun h => h); have hO10x := hOX.kept K710 (fun _ _ h => h); have hb1z := K10.heap H1.out (fun h => by omega); have h010 := K10.heap H0.out (fun h => by omega); have hR10q := hO8.rd.kept K910 (fun _ _ h => h); have hR10a := HR.out.kept (HK.out.trans K10 (fun k hk h => by omega)) (fun _ _ h => h))
          | ((with_reducible refine at_ 7 rfl ?_); go_must (refine step_alloc rfl _ rfl _ (askC zeroA (.slice none 0 0)) row_ask rfl ?_); intro w9 hb9 hk9 hs9)
          | (go_at_call 28; go_loud (rw [← HXV.out]); go_loud (refine Rets.use (HXp.out _ _ _ hOX.rd) ?_); rintro _ w8 ⟨hk8, u8, rfl, hO8⟩; obtain ⟨A8, c8, rfl, _⟩ := hO8.slice)
          | ((with_reducible refine at_ 85 rfl ?_); go_must (refine step_load rfl _ _ rfl (w.heap.size + 1 + 1) 0 [.string sPOST, .string ((⟨#[47, 104, 105, 115, 116, 111, 114, 105, 101, 115, 47]⟩ : ByteArray) ++ (str a.name)), .string ⟨#[]⟩, .slice none 0 0] _ _ (0, 0) _ rfl hbX rfl Try.underlying55 rfl info_req ?_))
          | ((with_reducible refine at_store 55 (.tmp 4) (.tmp 32) rfl ?_); go_must (refine step_store rfl _ _ _ rfl (w.heap.size + 1 + 1) 0 [.string sPOST, .string ((⟨#[47, 104, 105, 115, 116, 111, 114, 105, 101, 115, 47]⟩ : ByteArray) ++ (str a.name)), .string ⟨#[]⟩, .slice none 0 0] _ _ rfl rfl HX0.out (by simp) info_req (by simp [Value.oneCell']) ?_); intro w7 hb7 hk7 hs7; rw [put_whole (by rfl)] at hb7; have KX := hk7; have hbX : w7.heap[w.heap.size + 1 + 1]? = some (.cells [.string sPOST, .string ((⟨#[47, 104, 105, 115, 116, 111, 114, 105, 101, 115, 47]⟩ : ByteArray) ++ (str a.name)), .string ⟨#[]⟩, .slice none 0 0].toArray 55 (0, 0)) := hb7; have hOX : OwnRow w7 (fun k => w.heap.size + 1 + 1 < k) 5 1 (.slice none 0 0) X.body.length (Disk.bytes8 X.body) := (by rw [hxb]; exact OwnRow.nil _ _ _ _)))
        rw [put_whole (by rfl)] at hb12
        refine bodyPost_ret (ret_cell_tmp rfl [.string ⟨#[]⟩, .string ⟨#[]⟩, .string ⟨#[]⟩, .slice none 0 0] _ rfl hb12 Try.underlying55 rfl info_req) rfl ?_
        rw [HF.out]
        exact ⟨(HK.out.trans K10 (fun k hk h => by omega)).trans hk12 (fun _ hk h => by omega), _, rfl, OwnRow.nil _ _ _ _⟩
    · by_cases hk3 : a.kind = 3
      · rw [hk3] at a0
        have HGk := Lib.hid (show formK a.kind = some ⟨⟨#[115, 112, 101, 99, 115]⟩, 1, false, sPUT, 3⟩ by rw [hk3]; exact formK_3)
        have hxt : str (reqG ⟨⟨#[115, 112, 101, 99, 115]⟩, 1, false, sPUT, 3⟩ a).target = (⟨#[47, 115, 112, 101, 99, 115, 47]⟩ : ByteArray) ++ (str a.name) := by rw [tgt_3]
        have hxm : str (reqG ⟨⟨#[115, 112, 101, 99, 115]⟩, 1, false, sPUT, 3⟩ a).method = sPUT := (str_of _).symm
        have hxb : (reqG ⟨⟨#[115, 112, 101, 99, 115]⟩, 1, false, sPUT, 3⟩ a).body = a.body := by unfold reqG; simp only; first | rfl | (rw [show (sPUT.toList == [80, 85, 84]) = true by rw [ByteArray.toList_eq]; rfl]; rfl)
        clear hk1
        clear hk2
        clear hk3
        have hpk := print_pack ha hl1 hl2 hl3 HGk.out
        have HPP := Lib.hid (show printP a = if (parseP (reqG ⟨⟨#[115, 112, 101, 99, 115]⟩, 1, false, sPUT, 3⟩ a)).2 = 200 ∧ (parseP (reqG ⟨⟨#[115, 112, 101, 99, 115]⟩, 1, false, sPUT, 3⟩ a)).1 = a then (reqG ⟨⟨#[115, 112, 101, 99, 115]⟩, 1, false, sPUT, 3⟩ a, 0) else (zeroR, 2) by unfold printP; rw [HGk.out])
        have HXV := Lib.hid (fun u => show reqV (reqG ⟨⟨#[115, 112, 101, 99, 115]⟩, 1, false, sPUT, 3⟩ a) u = .agg #[.string sPUT, .string ((⟨#[47, 115, 112, 101, 99, 115, 47]⟩ : ByteArray) ++ (str a.name)), .string ⟨#[]⟩, u] by unfold reqV; rw [hxm, hxt]; rfl)
        have HXp := Lib.hid (fun (w : World) (ok : Nat → Prop) u h => rparse23_c (w := w) (ok := ok) (reqG ⟨⟨#[115, 112, 101, 99, 115]⟩, 1, false, sPUT, 3⟩ a) hpk.1 (by have := hpk.2.1; omega) (by have := hpk.2.2; omega) u h)
        obtain ⟨hqo, hql⟩ := parseP_ok hpk.1
        have hql : (parseP (reqG ⟨⟨#[115, 112, 101, 99, 115]⟩, 1, false, sPUT, 3⟩ a)).1.body.length ≤ 4200 := by have := hpk.2.2; omega
        clear hxt hxm hpk HGk
        generalize reqG ⟨⟨#[115, 112, 101, 99, 115]⟩, 1, false, sPUT, 3⟩ a = X at *
        generalize parseP X = pr at *
        obtain ⟨q, code⟩ := pr
        simp only at HPP hqo hql
        have HSm := Lib.hid (fun (w : World) (ok ok2 : Nat → Prop) v u h1 h2 => same23_c (w := w) (ok := ok) (ok2 := ok2) a q ha hqo v u h1 h2 (by omega))
        go_wp2
        refine Canon.region [5] [(⟨w.heap.size, 1, none⟩, .string (str a.name))] [(1, 0)] (.hold [0, 3, 4, 1, 2] (.loud 5 (.seg [6, 7] .stop))) (by kernel_rfl) (by kernel_rfl) (by repeat (first | (with_reducible exact Safe.body) | (with_reducible apply Safe.then) | (with_reducible apply Safe.inBlock) | (dsimp +zetaDelta only))) ?_
        simp only [Canon.pick, Canon.wpPlan, List.getElem?_toArray, List.getElem?_cons_zero, List.getElem?_cons_succ]
        have KD : Keeps (fun _ => False) wd wd.drew := (Keeps.refl _ wd).drew
        have H0 := Lib.hid (KD.heap H0.out (fun h => h))
        have H1 := Lib.hid (KD.heap H1.out (fun h => h))
        have HX0 := Lib.hid (KD.heap HX0.out (fun h => h))
        have HK := Lib.hid (HK.out.trans KD (fun _ _ h => h))
        have a1 := KD.cell a1 (fun h => h)
        have a3 := KD.cell a3 (fun h => h)
        have hz : w.heap.size + 3 ≤ wd.drew.heap.size := hz
        clear KD
        generalize wd.drew = wd at *
        have HL := Lib.hid (show Cells [(⟨w.heap.size, 1, none⟩, Value.string (str a.name))] wd by intro p hp; rw [List.mem_singleton] at hp; subst hp; exact a1)
        refine ⟨HL.out, ?_⟩
        go_wp2_with (go_at_call 13; go_loud (refine Rets.use (copy_c _ a.body (HR.out.kept HK.out (fun _ _ h => h)) (by omega)) ?_); rintro v71 w71 ⟨hO71, hk71⟩)
        obtain ⟨Ab, cb, rfl, _⟩ := hO71.slice
        refine ⟨fun p hp => hk71.cell (HL.out p hp) (fun h => h), ?_⟩
        go_wp2_with ((with_reducible refine at_store 55 (.tmp 4) (.tmp 41) rfl ?_); go_must (refine step_store rfl _ _ _ rfl (w.heap.size + 1 + 1) 0 [.string sPUT, .string ((⟨#[47, 115, 112, 101, 99, 115, 47]⟩ : ByteArray) ++ (str a.name)), .string ⟨#[]⟩, .slice Ab a.body.length cb] _ _ rfl rfl (hk71.heap HX0.out (fun h => h)) (by simp) info_req (by simp [Value.oneCell']) ?_); intro w7 hb7 hk7 hs7)
        rw [put_whole (by rfl)] at hb7
        refine ⟨by rfl, ⟨fun _ => rfl, trivial⟩, ?_⟩
        have KX := (hk71.mono (S' := (· = w.heap.size + 1 + 1)) (fun _ _ h => h.elim)).trans hk7 (fun _ _ h => h)
        have hbX : w7.heap[w.heap.size + 1 + 1]? = some (.cells [.string sPUT, .string ((⟨#[47, 115, 112, 101, 99, 115, 47]⟩ : ByteArray) ++ (str a.name)), .string ⟨#[]⟩, .slice Ab a.body.length cb].toArray 55 (0, 0)) := hb7
        have hOX : OwnRow w7 (fun k => w.heap.size + 1 + 1 < k) 5 1 (.slice Ab a.body.length cb) X.body.length (Disk.bytes8 X.body) := by rw [hxb]; exact (hO71.kept hk7 (fun k h h' => by omega)).mono (fun k hk h => by omega)
        by_cases hc : code = 200
        · subst hc
          have hcb : ((200 : Int) != 200) = false := rfl
          by_cases hq : a = q
          · have HF := Lib.hid (show printP a = (X, 0) by rw [HPP.out, if_pos ⟨rfl, hq.symm⟩])
            rw [decide_eq_true hq] at HSm
            clear hq HPP
            go_wp2_with (first
              | ((with_reducible refine at_ 98 rfl ?_); go_must (refine step_load rfl _ _ rfl (w.heap.size + 1 + 1) 0 [.string sPUT, .string ((⟨#[47, 115, 112, 101, 99, 115, 47]⟩ : ByteArray) ++ (str a.name)), .string ⟨#[]⟩, .slice Ab a.body.length cb] _ _ (0, 0) _ rfl hbx10 rfl Try.underlying55 rfl info_req ?_))
              | ((with_reducible refine at_store 55 (.tmp 2) (.tmp 98) rfl ?_); go_must (refine step_store rfl _ _ _ rfl (w.heap.size + 1) 0 [.string sPUT, .string ((⟨#[47, 115, 112, 101, 99, 115, 47]⟩ : ByteArray) ++ (str a.name)), .string ⟨#[]⟩, .slice Ab a.body.length cb] _ _ rfl rfl hb1z (by simp) info_req (by simp [Value.oneCell']) ?_); intro w12 hb12 hk12 hs12)
              | (go_at_call 29; go_loud (refine Rets.use (HSm.out w10 _ _ _ _ hR10a hR10q) ?_); rintro _ w11 ⟨rfl, hk11⟩; have hb1z := hk11.heap hb1z (fun h => h); have hbx10 := hk11.heap hbx10 (fun h => h); have K10 := K10.trans hk11 (fun _ _ h => h.elim); have hO10x := hO10x.kept hk11 (fun _ _ h => h))
              | ((with_reducible refine at_ 93 rfl ?_); go_must (refine step_load rfl _ _ rfl w8.heap.size 0 (askC q (.slice A8 q.body.length c8)) _ _ (0, 0) _ rfl hb10 rfl Try.underlying58 rfl (info_askC _ _) ?_))
              | ((with_reducible refine at_ 92 rfl ?_); go_must (refine step_load rfl _ _ rfl w.heap.size 0 (askC a (.slice A a.body.length c)) _ _ (0, 0) _ rfl h010 rfl Try.underlying58 rfl (info_askC _ _) ?_))
              | ((with_reducible refine at_store 58 (.tmp 7) (.tmp 87) rfl ?_); go_must (refine step_store rfl _ _ _ rfl w8.heap.size 0 (askC q (.slice A8 q.body.length c8)) _ _ rfl rfl hb9 (by simp [askC_len]) (info_askC _ _) (by simp [askC, Value.oneCell']) ?_); intro w10 hb10 hk10 hs10; rw [put_whole (by rfl)] at hb10; have K910 := hk9.trans hk10 (fun k hk h => by omega); have K710 := hk8.trans K910 (fun _ _ h => h); have K10 := KX.trans K710 (fun _ _ h => h.elim); have hbx10 := K710.heap hbX (fun h => h); have hO10x := hOX.kept K710 (fun _ _ h => h); have hb1z := K10.heap H1.out (fun h => by omega); have h010 := K10.heap H0.out (fun h => by omega); have hR10q := hO8.rd.kept K910 (fun _ _ h => h); have hR10a := HR.out.kept (HK.out.trans K10 (fun k hk h => by omega)) (fun _ _ h => h))
              | ((with_reducible refine at_ 7 rfl ?_); go_must (refine step_alloc rfl _ rfl _ (askC zeroA (.slice none 0 0)) row_ask rfl ?_); intro w9 hb9 hk9 hs9)
              | (go_at_call 28; go_loud (rw [← HXV.out]); go_loud (refine Rets.use (HXp.out _ _ _ hOX.rd) ?_); rintro _ w8 ⟨hk8, u8, rfl, hO8⟩; obtain ⟨A8, c8, rfl, _⟩ := hO8.slice)
              | ((with_reducible refine at_ 85 rfl ?_); go_must (refine step_load rfl _ _ rfl (w.heap.size + 1 + 1) 0 [.string sPUT, .string ((⟨#[47, 115, 112, 101, 99, 115, 47]⟩ : ByteArray) ++ (str a.name)), .string ⟨#[]⟩, .slice Ab a.body.length cb] _ _ (0, 0) _ rfl hbX rfl Try.underlying55 rfl info_req ?_)))
            rw [put_whole (by rfl)] at hb12
            refine bodyPost_ret (ret_cell_tmp rfl [.string sPUT, .string ((⟨#[47, 115, 112, 101, 99, 115, 47]⟩ : ByteArray) ++ (str a.name)), .string ⟨#[]⟩, .slice Ab a.body.length cb] _ rfl hb12 Try.underlying55 rfl info_req) rfl ?_
            rw [HF.out]
            refine ⟨(HK.out.trans K10 (fun k hk h => by omega)).trans hk12 (fun _ hk h => by omega), .slice Ab a.body.length cb, by rw [HXV.out] <;> rfl, ?_⟩
            exact (hO10x.kept hk12 (fun k h h' => by omega)).mono (fun k hk h => by omega)
          · have HF := Lib.hid (show printP a = (zeroR, 2) by rw [HPP.out, if_neg (fun h => hq h.2.symm)])
            rw [decide_eq_false hq] at HSm
            clear hq HPP
            go_wp2_with (first
              | ((with_reducible refine at_ 97 rfl ?_); go_must (refine step_build rfl 55 _ rfl [] rfl _ build_req0 ?_))
              | ((with_reducible refine at_store 55 (.tmp 2) (.tmp 97) rfl ?_); go_must (refine step_store rfl _ _ _ rfl (w.heap.size + 1) 0 [.string ⟨#[]⟩, .string ⟨#[]⟩, .string ⟨#[]⟩, .slice none 0 0] _ _ rfl rfl hb1z (by simp) info_req (by simp [Value.oneCell']) ?_); intro w12 hb12 hk12 hs12)
              | (go_at_call 29; go_loud (refine Rets.use (HSm.out w10 _ _ _ _ hR10a hR10q) ?_); rintro _ w11 ⟨rfl, hk11⟩; have hb1z := hk11.heap hb1z (fun h => h); have hbx10 := hk11.heap hbx10 (fun h => h); have K10 := K10.trans hk11 (fun _ _ h => h.elim); have hO10x := hO10x.kept hk11 (fun _ _ h => h))
              | ((with_reducible refine at_ 93 rfl ?_); go_must (refine step_load rfl _ _ rfl w8.heap.size 0 (askC q (.slice A8 q.body.length c8)) _ _ (0, 0) _ rfl hb10 rfl Try.underlying58 rfl (info_askC _ _) ?_))
              | ((with_reducible refine at_ 92 rfl ?_); go_must (refine step_load rfl _ _ rfl w.heap.size 0 (askC a (.slice A a.body.length c)) _ _ (0, 0) _ rfl h010 rfl Try.underlying58 rfl (info_askC _ _) ?_))
              | ((with_reducible refine at_store 58 (.tmp 7) (.tmp 87) rfl ?_); go_must (refine step_store rfl _ _ _ rfl w8.heap.size 0 (askC q (.slice A8 q.body.length c8)) _ _ rfl rfl hb9 (by simp [askC_len]) (info_askC _ _) (by simp [askC, Value.oneCell']) ?_); intro w10 hb10 hk10 hs10; rw [put_whole (by rfl)] at hb10; have K910 := hk9.trans hk10 (fun k hk h => by omega); have K710 := hk8.trans K910 (fun _ _ h => h); have K10 := KX.trans K710 (fun _ _ h => h.elim); have hbx10 := K710.heap hbX (fun h => h); have hO10x := hOX.kept K710 (fun _ _ h => h); have hb1z := K10.heap H1.out (fun h => by omega); have h010 := K10.heap H0.out (fun h => by omega); have hR10q := hO8.rd.kept K910 (fun _ _ h => h); have hR10a := HR.out.kept (HK.out.trans K10 (fun k hk h => by omega)) (fun _ _ h => h))
              | ((with_reducible refine at_ 7 rfl ?_); go_must (refine step_alloc rfl _ rfl _ (askC zeroA (.slice none 0 0)) row_ask rfl ?_); intro w9 hb9 hk9 hs9)
              | (go_at_call 28; go_loud (rw [← HXV.out]); go_loud (refine Rets.use (HXp.out _ _ _ hOX.rd) ?_); rintro _ w8 ⟨hk8, u8, rfl, hO8⟩; obtain ⟨A8, c8, rfl, _⟩ := hO8.slice)
              | ((with_reducible refine at_ 85 rfl ?_); go_must (refine step_load rfl _ _ rfl (w.heap.size + 1 + 1) 0 [.string sPUT, .string ((⟨#[47, 115, 112, 101, 99, 115, 47]⟩ : ByteArray) ++ (str a.name)), .string ⟨#[]⟩, .slice Ab a.body.length cb] _ _ (0, 0) _ rfl hbX rfl Try.underlying55 rfl info_req ?_)))
            rw [put_whole (by rfl)] at hb12
            refine bodyPost_ret (ret_cell_tmp rfl [.string ⟨#[]⟩, .string ⟨#[]⟩, .string ⟨#[]⟩, .slice none 0 0] _ rfl hb12 Try.underlying55 rfl info_req) rfl ?_
            rw [HF.out]
            exact ⟨(HK.out.trans K10 (fun k hk h => by omega)).trans hk12 (fun _ hk h => by omega), _, rfl, OwnRow.nil _ _ _ _⟩
        · have HF := Lib.hid (show printP a = (zeroR, 2) by rw [HPP.out, if_neg (fun h => hc h.1)])
          have hcb : (code != 200) = true := by simpa using hc
          clear hc HPP
          go_wp2_with (first
            | ((with_reducible refine at_ 97 rfl ?_); go_must (refine step_build rfl 55 _ rfl [] rfl _ build_req0 ?_))
            | ((with_reducible refine at_store 55 (.tmp 2) (.tmp 97) rfl ?_); go_must (refine step_store rfl _ _ _ rfl (w.heap.size + 1) 0 [.string ⟨#[]⟩, .string ⟨#[]⟩, .string ⟨#[]⟩, .slice none 0 0] _ _ rfl rfl hb1z (by simp) info_req (by simp [Value.oneCell']) ?_); intro w12 hb12 hk12 hs12)
            | ((with_reducible refine at_store 58 (.tmp 7) (.tmp 87) rfl ?_); go_must (refine step_store rfl _ _ _ rfl w8.heap.size 0 (askC q (.slice A8 q.body.length c8)) _ _ rfl rfl hb9 (by simp [askC_len]) (info_askC _ _) (by simp [askC, Value.oneCell']) ?_); intro w10 hb10 hk10 hs10; rw [put_whole (by rfl)] at hb10; have K910 := hk9.trans hk10 (fun k hk h => by omega); have K710 := hk8.trans K910 (fun _ _ h => h); have K10 := KX.trans K710 (fun _ _ h => h.elim); have hbx10 := K710.heap hbX (fun h => h); have hO10x := hOX.kept K710 (fun _ _ h => h); have hb1z := K10.heap H1.out (fun h => by omega); have h010 := K10.heap H0.out (fun h => by omega); have hR10q := hO8.rd.kept K910 (fun _ _ h => h); have hR10a := HR.out.kept (HK.out.trans K10 (fun k hk h => by omega)) (fun _ _ h => h))
            | ((with_reducible refine at_ 7 rfl ?_); go_must (refine step_alloc rfl _ rfl _ (askC zeroA (.slice none 0 0)) row_ask rfl ?_); intro w9 hb9 hk9 hs9)
            | (go_at_call 28; go_loud (rw [← HXV.out]); go_loud (refine Rets.use (HXp.out _ _ _ hOX.rd) ?_); rintro _ w8 ⟨hk8, u8, rfl, hO8⟩; obtain ⟨A8, c8, rfl, _⟩ := hO8.slice)
            | ((with_reducible refine at_ 85 rfl ?_); go_must (refine step_load rfl _ _ rfl (w.heap.size + 1 + 1) 0 [.string sPUT, .string ((⟨#[47, 115, 112, 101, 99, 115, 47]⟩ : ByteArray) ++ (str a.name)), .string ⟨#[]⟩, .slice Ab a.body.length cb] _ _ (0, 0) _ rfl hbX rfl Try.underlying55 rfl info_req ?_)))
          rw [put_whole (by rfl)] at hb12
          refine bodyPost_ret (ret_cell_tmp rfl [.string ⟨#[]⟩, .string ⟨#[]⟩, .string ⟨#[]⟩, .slice none 0 0] _ rfl hb12 Try.underlying55 rfl info_req) rfl ?_
          rw [HF.out]
          exact ⟨(HK.out.trans K10 (fun k hk h => by omega)).trans hk12 (fun _ hk h => by omega), _, rfl, OwnRow.nil _ _ _ _⟩
      · by_cases hk4 : a.kind = 4
        · rw [hk4] at a0
          have HGk := Lib.hid (show formK a.kind = some ⟨⟨#[106, 111, 98, 115]⟩, 2, false, sPOST, 4⟩ by rw [hk4]; exact formK_4)
          have hxt : str (reqG ⟨⟨#[106, 111, 98, 115]⟩, 2, false, sPOST, 4⟩ a).target = (⟨#[47, 106, 111, 98, 115, 47]⟩ : ByteArray) ++ (str a.name) ++ (⟨#[47]⟩ : ByteArray) ++ (str a.spec) := by rw [tgt_4]
          have hxm : str (reqG ⟨⟨#[106, 111, 98, 115]⟩, 2, false, sPOST, 4⟩ a).method = sPOST := (str_of _).symm
          have hxb : (reqG ⟨⟨#[106, 111, 98, 115]⟩, 2, false, sPOST, 4⟩ a).body = [] := by unfold reqG; simp only; first | rfl | (rw [show (sPOST.toList == [80, 85, 84]) = false by rw [ByteArray.toList_eq]; rfl]; rfl)
          clear hk1
          clear hk2
          clear hk3
          clear hk4
          have hpk := print_pack ha hl1 hl2 hl3 HGk.out
          have HPP := Lib.hid (show printP a = if (parseP (reqG ⟨⟨#[106, 111, 98, 115]⟩, 2, false, sPOST, 4⟩ a)).2 = 200 ∧ (parseP (reqG ⟨⟨#[106, 111, 98, 115]⟩, 2, false, sPOST, 4⟩ a)).1 = a then (reqG ⟨⟨#[106, 111, 98, 115]⟩, 2, false, sPOST, 4⟩ a, 0) else (zeroR, 2) by unfold printP; rw [HGk.out])
          have HXV := Lib.hid (fun u => show reqV (reqG ⟨⟨#[106, 111, 98, 115]⟩, 2, false, sPOST, 4⟩ a) u = .agg #[.string sPOST, .string ((⟨#[47, 106, 111, 98, 115, 47]⟩ : ByteArray) ++ (str a.name) ++ (⟨#[47]⟩ : ByteArray) ++ (str a.spec)), .string ⟨#[]⟩, u] by unfold reqV; rw [hxm, hxt]; rfl)
          have HXp := Lib.hid (fun (w : World) (ok : Nat → Prop) u h => rparse23_c (w := w) (ok := ok) (reqG ⟨⟨#[106, 111, 98, 115]⟩, 2, false, sPOST, 4⟩ a) hpk.1 (by have := hpk.2.1; omega) (by have := hpk.2.2; omega) u h)
          obtain ⟨hqo, hql⟩ := parseP_ok hpk.1
          have hql : (parseP (reqG ⟨⟨#[106, 111, 98, 115]⟩, 2, false, sPOST, 4⟩ a)).1.body.length ≤ 4200 := by have := hpk.2.2; omega
          clear hxt hxm hpk HGk
          generalize reqG ⟨⟨#[106, 111, 98, 115]⟩, 2, false, sPOST, 4⟩ a = X at *
          generalize parseP X = pr at *
          obtain ⟨q, code⟩ := pr
          simp only at HPP hqo hql
          have HSm := Lib.hid (fun (w : World) (ok ok2 : Nat → Prop) v u h1 h2 => same23_c (w := w) (ok := ok) (ok2 := ok2) a q ha hqo v u h1 h2 (by omega))
          by_cases hc : code = 200
          · subst hc
            have hcb : ((200 : Int) != 200) = false := rfl
            by_cases hq : a = q
            · have HF := Lib.hid (show printP a = (X, 0) by rw [HPP.out, if_pos ⟨rfl, hq.symm⟩])
              rw [decide_eq_true hq] at HSm
              clear hq HPP
              go_wp2_with (first
                | ((with_reducible refine at_ 98 rfl ?_); go_must (refine step_load rfl _ _ rfl (w.heap.size + 1 + 1) 0 [.string sPOST, .string ((⟨#[47, 106, 111, 98, 115, 47]⟩ : ByteArray) ++ (str a.name) ++ (⟨#[47]⟩ : ByteArray) ++ (str a.spec)), .string ⟨#[]⟩, .slice none 0 0] _ _ (0, 0) _ rfl hbx10 rfl Try.underlying55 rfl info_req ?_))
                | ((with_reducible refine at_store 55 (.tmp 2) (.tmp 98) rfl ?_); go_must (refine step_store rfl _ _ _ rfl (w.heap.size + 1) 0 [.string sPOST, .string ((⟨#[47, 106, 111, 98, 115, 47]⟩ : ByteArray) ++ (str a.name) ++ (⟨#[47]⟩ : ByteArray) ++ (str a.spec)), .string ⟨#[]⟩, .slice none 0 0] _ _ rfl rfl hb1z (by simp) info_req (by simp [Value.oneCell']) ?_); intro w12 hb12 hk12 hs12)
                | (go_at_call 29; go_loud (refine Rets.use (HSm.out w10 _ _ _ _ hR10a hR10q) ?_); rintro _ w11 ⟨rfl, hk11⟩; have hb1z := hk11.heap hb1z (fun h => h); have hbx10 := hk11.heap hbx10 (fun h => h); have K10 := K10.trans hk11 (fun _ _ h => h.elim); have hO10x := hO10x.kept hk11 (fun _ _ h => h))
                | ((with_reducible refine at_ 93 rfl ?_); go_must (refine step_load rfl _ _ rfl w8.heap.size 0 (askC q (.slice A8 q.body.length c8)) _ _ (0, 0) _ rfl hb10 rfl Try.underlying58 rfl (info_askC _ _) ?_))
                | ((with_reducible refine at_ 92 rfl ?_); go_must (refine step_load rfl _ _ rfl w.heap.size 0 (askC a (.slice A a.body.length c)) _ _ (0, 0) _ rfl h010 rfl Try.underlying58 rfl (info_askC _ _) ?_))
                | ((with_reducible refine at_store 58 (.tmp 7) (.tmp 87) rfl ?_); go_must (refine step_store rfl _ _ _ rfl w8.heap.size 0 (askC q (.slice A8 q.body.length c8)) _ _ rfl rfl hb9 (by simp [askC_len]) (info_askC _ _) (by simp [askC, Value.oneCell']) ?_); intro w10 hb10 hk10 hs10; rw [put_whole (by rfl)] at hb10; have K910 := hk9.trans hk10 (fun k hk h => by omega); have K710 := hk8.trans K910 (fun _ _ h => h); have K10 := KX.trans K710 (fun _ _ h => h.elim); have hbx10 := K710.heap hbX (fun h => h); have hO10x := hOX.kept K710 (fun _ _ h => h); have hb1z := K10.heap H1.out (fun h => by omega); have h010 := K10.heap H0.out (fun h => by omega); have hR10q := hO8.rd.kept K910 (fun _ _ h => h); have hR10a := HR.out.kept (HK.out.trans K10 (fun k hk h => by omega)) (fun _ _ h => h))
                | ((with_reducible refine at_ 7 rfl ?_); go_must (refine step_alloc rfl _ rfl _ (askC zeroA (.slice none 0 0)) row_ask rfl ?_); intro w9 hb9 hk9 hs9)
                | (go_at_call 28; go_loud (rw [← HXV.out]); go_loud (refine Rets.use (HXp.out _ _ _ hOX.rd) ?_); rintro _ w8 ⟨hk8, u8, rfl, hO8⟩; obtain ⟨A8, c8, rfl, _⟩ := hO8.slice)
                | ((with_reducible refine at_ 85 rfl ?_); go_must (refine step_load rfl _ _ rfl (w.heap.size + 1 + 1) 0 [.string sPOST, .string ((⟨#[47, 106, 111, 98, 115, 47]⟩ : ByteArray) ++ (str a.name) ++ (⟨#[47]⟩ : ByteArray) ++ (str a.spec)), .string ⟨#[]⟩, .slice none 0 0] _ _ (0, 0) _ rfl hbX rfl Try.underlying55 rfl info_req ?_))
                | ((with_reducible refine at_store 55 (.tmp 4) (.tmp 51) rfl ?_); go_must (refine step_store rfl _ _ _ rfl (w.heap.size + 1 + 1) 0 [.string sPOST, .string ((⟨#[47, 106, 111, 98, 115, 47]⟩ : ByteArray) ++ (str a.name) ++ (⟨#[47]⟩ : ByteArray) ++ (str a.spec)), .string ⟨#[]⟩, .slice none 0 0] _ _ rfl rfl HX0.out (by simp) info_req (by simp [Value.oneCell']) ?_); intro w7 hb7 hk7 hs7; rw [put_whole (by rfl)] at hb7; have KX := hk7; have hbX : w7.heap[w.heap.size + 1 + 1]? = some (.cells [.string sPOST, .string ((⟨#[47, 106, 111, 98, 115, 47]⟩ : ByteArray) ++ (str a.name) ++ (⟨#[47]⟩ : ByteArray) ++ (str a.spec)), .string ⟨#[]⟩, .slice none 0 0].toArray 55 (0, 0)) := hb7; have hOX : OwnRow w7 (fun k => w.heap.size + 1 + 1 < k) 5 1 (.slice none 0 0) X.body.length (Disk.bytes8 X.body) := (by rw [hxb]; exact OwnRow.nil _ _ _ _)))
              rw [put_whole (by rfl)] at hb12
              refine bodyPost_ret (ret_cell_tmp rfl [.string sPOST, .string ((⟨#[47, 106, 111, 98, 115, 47]⟩ : ByteArray) ++ (str a.name) ++ (⟨#[47]⟩ : ByteArray) ++ (str a.spec)), .string ⟨#[]⟩, .slice none 0 0] _ rfl hb12 Try.underlying55 rfl info_req) rfl ?_
              rw [HF.out]
              refine ⟨(HK.out.trans K10 (fun k hk h => by omega)).trans hk12 (fun _ hk h => by omega), .slice none 0 0, by rw [HXV.out] <;> rfl, ?_⟩
              exact (hO10x.kept hk12 (fun k h h' => by omega)).mono (fun k hk h => by omega)
            · have HF := Lib.hid (show printP a = (zeroR, 2) by rw [HPP.out, if_neg (fun h => hq h.2.symm)])
              rw [decide_eq_false hq] at HSm
              clear hq HPP
              go_wp2_with (first
                | ((with_reducible refine at_ 97 rfl ?_); go_must (refine step_build rfl 55 _ rfl [] rfl _ build_req0 ?_))
                | ((with_reducible refine at_store 55 (.tmp 2) (.tmp 97) rfl ?_); go_must (refine step_store rfl _ _ _ rfl (w.heap.size + 1) 0 [.string ⟨#[]⟩, .string ⟨#[]⟩, .string ⟨#[]⟩, .slice none 0 0] _ _ rfl rfl hb1z (by simp) info_req (by simp [Value.oneCell']) ?_); intro w12 hb12 hk12 hs12)
                | (go_at_call 29; go_loud (refine Rets.use (HSm.out w10 _ _ _ _ hR10a hR10q) ?_); rintro _ w11 ⟨rfl, hk11⟩; have hb1z := hk11.heap hb1z (fun h => h); have hbx10 := hk11.heap hbx10 (fun h => h); have K10 := K10.trans hk11 (fun _ _ h => h.elim); have hO10x := hO10x.kept hk11 (fun _ _ h => h))
                | ((with_reducible refine at_ 93 rfl ?_); go_must (refine step_load rfl _ _ rfl w8.heap.size 0 (askC q (.slice A8 q.body.length c8)) _ _ (0, 0) _ rfl hb10 rfl Try.underlying58 rfl (info_askC _ _) ?_))
                | ((with_reducible refine at_ 92 rfl ?_); go_must (refine step_load rfl _ _ rfl w.heap.size 0 (askC a (.slice A a.body.length c)) _ _ (0, 0) _ rfl h010 rfl Try.underlying58 rfl (info_askC _ _) ?_))
                | ((with_reducible refine at_store 58 (.tmp 7) (.tmp 87) rfl ?_); go_must (refine step_store rfl _ _ _ rfl w8.heap.size 0 (askC q (.slice A8 q.body.length c8)) _ _ rfl rfl hb9 (by simp [askC_len]) (info_askC _ _) (by simp [askC, Value.oneCell']) ?_); intro w10 hb10 hk10 hs10; rw [put_whole (by rfl)] at hb10; have K910 := hk9.trans hk10 (fun k hk h => by omega); have K710 := hk8.trans K910 (fun _ _ h => h); have K10 := KX.trans K710 (fun _ _ h => h.elim); have hbx10 := K710.heap hbX (fun h => h); have hO10x := hOX.kept K710 (fun _ _ h => h); have hb1z := K10.heap H1.out (fun h => by omega); have h010 := K10.heap H0.out (fun h => by omega); have hR10q := hO8.rd.kept K910 (fun _ _ h => h); have hR10a := HR.out.kept (HK.out.trans K10 (fun k hk h => by omega)) (fun _ _ h => h))
                | ((with_reducible refine at_ 7 rfl ?_); go_must (refine step_alloc rfl _ rfl _ (askC zeroA (.slice none 0 0)) row_ask rfl ?_); intro w9 hb9 hk9 hs9)
                | (go_at_call 28; go_loud (rw [← HXV.out]); go_loud (refine Rets.use (HXp.out _ _ _ hOX.rd) ?_); rintro _ w8 ⟨hk8, u8, rfl, hO8⟩; obtain ⟨A8, c8, rfl, _⟩ := hO8.slice)
                | ((with_reducible refine at_ 85 rfl ?_); go_must (refine step_load rfl _ _ rfl (w.heap.size + 1 + 1) 0 [.string sPOST, .string ((⟨#[47, 106, 111, 98, 115, 47]⟩ : ByteArray) ++ (str a.name) ++ (⟨#[47]⟩ : ByteArray) ++ (str a.spec)), .string ⟨#[]⟩, .slice none 0 0] _ _ (0, 0) _ rfl hbX rfl Try.underlying55 rfl info_req ?_))
                | ((with_reducible refine at_store 55 (.tmp 4) (.tmp 51) rfl ?_); go_must (refine step_store rfl _ _ _ rfl (w.heap.size + 1 + 1) 0 [.string sPOST, .string ((⟨#[47, 106, 111, 98, 115, 47]⟩ : ByteArray) ++ (str a.name) ++ (⟨#[47]⟩ : ByteArray) ++ (str a.spec)), .string ⟨#[]⟩, .slice none 0 0] _ _ rfl rfl HX0.out (by simp) info_req (by simp [Value.oneCell']) ?_); intro w7 hb7 hk7 hs7; rw [put_whole (by rfl)] at hb7; have KX := hk7; have hbX : w7.heap[w.heap.size + 1 + 1]? = some (.cells [.string sPOST, .string ((⟨#[47, 106, 111, 98, 115, 47]⟩ : ByteArray) ++ (str a.name) ++ (⟨#[47]⟩ : ByteArray) ++ (str a.spec)), .string ⟨#[]⟩, .slice none 0 0].toArray 55 (0, 0)) := hb7; have hOX : OwnRow w7 (fun k => w.heap.size + 1 + 1 < k) 5 1 (.slice none 0 0) X.body.length (Disk.bytes8 X.body) := (by rw [hxb]; exact OwnRow.nil _ _ _ _)))
              rw [put_whole (by rfl)] at hb12
              refine bodyPost_ret (ret_cell_tmp rfl [.string ⟨#[]⟩, .string ⟨#[]⟩, .string ⟨#[]⟩, .slice none 0 0] _ rfl hb12 Try.underlying55 rfl info_req) rfl ?_
              rw [HF.out]
              exact ⟨(HK.out.trans K10 (fun k hk h => by omega)).trans hk12 (fun _ hk h => by omega), _, rfl, OwnRow.nil _ _ _ _⟩
          · have HF := Lib.hid (show printP a = (zeroR, 2) by rw [HPP.out, if_neg (fun h => hc h.1)])
            have hcb : (code != 200) = true := by simpa using hc
            clear hc HPP
            go_wp2_with (first
              | ((with_reducible refine at_ 97 rfl ?_); go_must (refine step_build rfl 55 _ rfl [] rfl _ build_req0 ?_))
              | ((with_reducible refine at_store 55 (.tmp 2) (.tmp 97) rfl ?_); go_must (refine step_store rfl _ _ _ rfl (w.heap.size + 1) 0 [.string ⟨#[]⟩, .string ⟨#[]⟩, .string ⟨#[]⟩, .slice none 0 0] _ _ rfl rfl hb1z (by simp) info_req (by simp [Value.oneCell']) ?_); intro w12 hb12 hk12 hs12)
              | ((with_reducible refine at_store 58 (.tmp 7) (.tmp 87) rfl ?_); go_must (refine step_store rfl _ _ _ rfl w8.heap.size 0 (askC q (.slice A8 q.body.length c8)) _ _ rfl rfl hb9 (by simp [askC_len]) (info_askC _ _) (by simp [askC, Value.oneCell']) ?_); intro w10 hb10 hk10 hs10; rw [put_whole (by rfl)] at hb10; have K910 := hk9.trans hk10 (fun k hk h => by omega); have K710 := hk8.trans K910 (fun _ _ h => h); have K10 := KX.trans K710 (fun _ _ h => h.elim); have hbx10 := K710.heap hbX (fun h => h); have hO10x := hOX.kept K710 (fun _ _ h => h); have hb1z := K10.heap H1.out (fun h => by omega); have h010 := K10.heap H0.out (fun h => by omega); have hR10q := hO8.rd.kept K910 (fun _ _ h => h); have hR10a := HR.out.kept (HK.out.trans K10 (fun k hk h => by omega)) (fun _ _ h => h))
              | ((with_reducible refine at_ 7 rfl ?_); go_must (refine step_alloc rfl _ rfl _ (askC zeroA (.slice none 0 0)) row_ask rfl ?_); intro w9 hb9 hk9 hs9)
              | (go_at_call 28; go_loud (rw [← HXV.out]); go_loud (refine Rets.use (HXp.out _ _ _ hOX.rd) ?_); rintro _ w8 ⟨hk8, u8, rfl, hO8⟩; obtain ⟨A8, c8, rfl, _⟩ := hO8.slice)
              | ((with_reducible refine at_ 85 rfl ?_); go_must (refine step_load rfl _ _ rfl (w.heap.size + 1 + 1) 0 [.string sPOST, .string ((⟨#[47, 106, 111, 98, 115, 47]⟩ : ByteArray) ++ (str a.name) ++ (⟨#[47]⟩ : ByteArray) ++ (str a.spec)), .string ⟨#[]⟩, .slice none 0 0] _ _ (0, 0) _ rfl hbX rfl Try.underlying55 rfl info_req ?_))
              | ((with_reducible refine at_store 55 (.tmp 4) (.tmp 51) rfl ?_); go_must (refine step_store rfl _ _ _ rfl (w.heap.size + 1 + 1) 0 [.string sPOST, .string ((⟨#[47, 106, 111, 98, 115, 47]⟩ : ByteArray) ++ (str a.name) ++ (⟨#[47]⟩ : ByteArray) ++ (str a.spec)), .string ⟨#[]⟩, .slice none 0 0] _ _ rfl rfl HX0.out (by simp) info_req (by simp [Value.oneCell']) ?_); intro w7 hb7 hk7 hs7; rw [put_whole (by rfl)] at hb7; have KX := hk7; have hbX : w7.heap[w.heap.size + 1 + 1]? = some (.cells [.string sPOST, .string ((⟨#[47, 106, 111, 98, 115, 47]⟩ : ByteArray) ++ (str a.name) ++ (⟨#[47]⟩ : ByteArray) ++ (str a.spec)), .string ⟨#[]⟩, .slice none 0 0].toArray 55 (0, 0)) := hb7; have hOX : OwnRow w7 (fun k => w.heap.size + 1 + 1 < k) 5 1 (.slice none 0 0) X.body.length (Disk.bytes8 X.body) := (by rw [hxb]; exact OwnRow.nil _ _ _ _)))
            rw [put_whole (by rfl)] at hb12
            refine bodyPost_ret (ret_cell_tmp rfl [.string ⟨#[]⟩, .string ⟨#[]⟩, .string ⟨#[]⟩, .slice none 0 0] _ rfl hb12 Try.underlying55 rfl info_req) rfl ?_
            rw [HF.out]
            exact ⟨(HK.out.trans K10 (fun k hk h => by omega)).trans hk12 (fun _ hk h => by omega), _, rfl, OwnRow.nil _ _ _ _⟩
        · by_cases hk5 : a.kind = 5
          · rw [hk5] at a0
            have HGk := Lib.hid (show formK a.kind = some ⟨⟨#[106, 111, 98, 115]⟩, 1, true, sGET, 5⟩ by rw [hk5]; exact formK_5)
            have hxt : str (reqG ⟨⟨#[106, 111, 98, 115]⟩, 1, true, sGET, 5⟩ a).target = (⟨#[47, 106, 111, 98, 115, 47]⟩ : ByteArray) ++ sa := by rw [tgt_5]; rw [HSa.out]
            have hxm : str (reqG ⟨⟨#[106, 111, 98, 115]⟩, 1, true, sGET, 5⟩ a).method = sGET := (str_of _).symm
            have hxb : (reqG ⟨⟨#[106, 111, 98, 115]⟩, 1, true, sGET, 5⟩ a).body = [] := by unfold reqG; simp only; first | rfl | (rw [show (sGET.toList == [80, 85, 84]) = false by rw [ByteArray.toList_eq]; rfl]; rfl)
            clear hk1
            clear hk2
            clear hk3
            clear hk4
            clear hk5
            have hpk := print_pack ha hl1 hl2 hl3 HGk.out
            have HPP := Lib.hid (show printP a = if (parseP (reqG ⟨⟨#[106, 111, 98, 115]⟩, 1, true, sGET, 5⟩ a)).2 = 200 ∧ (parseP (reqG ⟨⟨#[106, 111, 98, 115]⟩, 1, true, sGET, 5⟩ a)).1 = a then (reqG ⟨⟨#[106, 111, 98, 115]⟩, 1, true, sGET, 5⟩ a, 0) else (zeroR, 2) by unfold printP; rw [HGk.out])
            have HXV := Lib.hid (fun u => show reqV (reqG ⟨⟨#[106, 111, 98, 115]⟩, 1, true, sGET, 5⟩ a) u = .agg #[.string sGET, .string ((⟨#[47, 106, 111, 98, 115, 47]⟩ : ByteArray) ++ sa), .string ⟨#[]⟩, u] by unfold reqV; rw [hxm, hxt]; rfl)
            have HXp := Lib.hid (fun (w : World) (ok : Nat → Prop) u h => rparse23_c (w := w) (ok := ok) (reqG ⟨⟨#[106, 111, 98, 115]⟩, 1, true, sGET, 5⟩ a) hpk.1 (by have := hpk.2.1; omega) (by have := hpk.2.2; omega) u h)
            obtain ⟨hqo, hql⟩ := parseP_ok hpk.1
            have hql : (parseP (reqG ⟨⟨#[106, 111, 98, 115]⟩, 1, true, sGET, 5⟩ a)).1.body.length ≤ 4200 := by have := hpk.2.2; omega
            clear hxt hxm hpk HGk
            generalize reqG ⟨⟨#[106, 111, 98, 115]⟩, 1, true, sGET, 5⟩ a = X at *
            generalize parseP X = pr at *
            obtain ⟨q, code⟩ := pr
            simp only at HPP hqo hql
            have HSm := Lib.hid (fun (w : World) (ok ok2 : Nat → Prop) v u h1 h2 => same23_c (w := w) (ok := ok) (ok2 := ok2) a q ha hqo v u h1 h2 (by omega))
            by_cases hc : code = 200
            · subst hc
              have hcb : ((200 : Int) != 200) = false := rfl
              by_cases hq : a = q
              · have HF := Lib.hid (show printP a = (X, 0) by rw [HPP.out, if_pos ⟨rfl, hq.symm⟩])
                rw [decide_eq_true hq] at HSm
                clear hq HPP
                go_wp2_with (first
                  | ((with_reducible refine at_ 98 rfl ?_); go_must (refine step_load rfl _ _ rfl (w.heap.size + 1 + 1) 0 [.string sGET, .string ((⟨#[47, 106, 111, 98, 115, 47]⟩ : ByteArray) ++ sa), .string ⟨#[]⟩, .slice none 0 0] _ _ (0, 0) _ rfl hbx10 rfl Try.underlying55 rfl info_req ?_))
                  | ((with_reducible refine at_store 55 (.tmp 2) (.tmp 98) rfl ?_); go_must (refine step_store rfl _ _ _ rfl (w.heap.size + 1) 0 [.string sGET, .string ((⟨#[47, 106, 111, 98, 115, 47]⟩ : ByteArray) ++ sa), .string ⟨#[]⟩, .slice none 0 0] _ _ rfl rfl hb1z (by simp) info_req (by simp [Value.oneCell']) ?_); intro w12 hb12 hk12 hs12)
                  | (go_at_call 29; go_loud (refine Rets.use (HSm.out w10 _ _ _ _ hR10a hR10q) ?_); rintro _ w11 ⟨rfl, hk11⟩; have hb1z := hk11.heap hb1z (fun h => h); have hbx10 := hk11.heap hbx10 (fun h => h); have K10 := K10.trans hk11 (fun _ _ h => h.elim); have hO10x := hO10x.kept hk11 (fun _ _ h => h))
                  | ((with_reducible refine at_ 93 rfl ?_); go_must (refine step_load rfl _ _ rfl w8.heap.size 0 (askC q (.slice A8 q.body.length c8)) _ _ (0, 0) _ rfl hb10 rfl Try.underlying58 rfl (info_askC _ _) ?_))
                  | ((with_reducible refine at_ 92 rfl ?_); go_must (refine step_load rfl _ _ rfl w.heap.size 0 (askC a (.slice A a.body.length c)) _ _ (0, 0) _ rfl h010 rfl Try.underlying58 rfl (info_askC _ _) ?_))
                  | ((with_reducible refine at_store 58 (.tmp 7) (.tmp 87) rfl ?_); go_must (refine step_store rfl _ _ _ rfl w8.heap.size 0 (askC q (.slice A8 q.body.length c8)) _ _ rfl rfl hb9 (by simp [askC_len]) (info_askC _ _) (by simp [askC, Value.oneCell']) ?_); intro w10 hb10 hk10 hs10; rw [put_whole (by rfl)] at hb10; have K910 := hk9.trans hk10 (fun k hk h => by omega); have K710 := hk8.trans K910 (fun _ _ h => h); have K10 := KX.trans K710 (fun _ _ h => h.elim); have hbx10 := K710.heap hbX (fun h => h); have hO10x := hOX.kept K710 (fun _ _ h => h); have hb1z := K10.heap H1.out (fun h => by omega); have h010 := K10.heap H0.out (fun h => by omega); have hR10q := hO8.rd.kept K910 (fun _ _ h => h); have hR10a := HR.out.kept (HK.out.trans K10 (fun k hk h => by omega)) (fun _ _ h => h))
                  | ((with_reducible refine at_ 7 rfl ?_); go_must (refine step_alloc rfl _ rfl _ (askC zeroA (.slice none 0 0)) row_ask rfl ?_); intro w9 hb9 hk9 hs9)
                  | (go_at_call 28; go_loud (rw [← HXV.out]); go_loud (refine Rets.use (HXp.out _ _ _ hOX.rd) ?_); rintro _ w8 ⟨hk8, u8, rfl, hO8⟩; obtain ⟨A8, c8, rfl, _⟩ := hO8.slice)
                  | ((with_reducible refine at_ 85 rfl ?_); go_must (refine step_load rfl _ _ rfl (w.heap.size + 1 + 1) 0 [.string sGET, .string ((⟨#[47, 106, 111, 98, 115, 47]⟩ : ByteArray) ++ sa), .string ⟨#[]⟩, .slice none 0 0] _ _ (0, 0) _ rfl hbX rfl Try.underlying55 rfl info_req ?_))
                  | ((with_reducible refine at_store 9 (.tmp 56) (.tmp 55) rfl ?_); go_must (refine step_store1 rfl _ _ _ rfl (w.heap.size + 1 + 1) 1 (.string ((⟨#[47, 106, 111, 98, 115, 47]⟩ : ByteArray) ++ sa)) _ _ rfl rfl rfl HX0.out (by simp) info_str ?_); intro w7 hb7 hk7 hs7; have KX := hk7; have hbX : w7.heap[w.heap.size + 1 + 1]? = some (.cells [.string sGET, .string ((⟨#[47, 106, 111, 98, 115, 47]⟩ : ByteArray) ++ sa), .string ⟨#[]⟩, .slice none 0 0].toArray 55 (0, 0)) := hb7; have hOX : OwnRow w7 (fun k => w.heap.size + 1 + 1 < k) 5 1 (.slice none 0 0) X.body.length (Disk.bytes8 X.body) := (by rw [hxb]; exact OwnRow.nil _ _ _ _)))
                rw [put_whole (by rfl)] at hb12
                refine bodyPost_ret (ret_cell_tmp rfl [.string sGET, .string ((⟨#[47, 106, 111, 98, 115, 47]⟩ : ByteArray) ++ sa), .string ⟨#[]⟩, .slice none 0 0] _ rfl hb12 Try.underlying55 rfl info_req) rfl ?_
                rw [HF.out]
                refine ⟨(HK.out.trans K10 (fun k hk h => by omega)).trans hk12 (fun _ hk h => by omega), .slice none 0 0, by rw [HXV.out] <;> rfl, ?_⟩
                exact (hO10x.kept hk12 (fun k h h' => by omega)).mono (fun k hk h => by omega)
              · have HF := Lib.hid (show printP a = (zeroR, 2) by rw [HPP.out, if_neg (fun h => hq h.2.symm)])
                rw [decide_eq_false hq] at HSm
                clear hq HPP
                go_wp2_with (first
                  | ((with_reducible refine at_ 97 rfl ?_); go_must (refine step_build rfl 55 _ rfl [] rfl _ build_req0 ?_))
                  | ((with_reducible refine at_store 55 (.tmp 2) (.tmp 97) rfl ?_); go_must (refine step_store rfl _ _ _ rfl (w.heap.size + 1) 0 [.string ⟨#[]⟩, .string ⟨#[]⟩, .string ⟨#[]⟩, .slice none 0 0] _ _ rfl rfl hb1z (by simp) info_req (by simp [Value.oneCell']) ?_); intro w12 hb12 hk12 hs12)
                  | (go_at_call 29; go_loud (refine Rets.use (HSm.out w10 _ _ _ _ hR10a hR10q) ?_); rintro _ w11 ⟨rfl, hk11⟩; have hb1z := hk11.heap hb1z (fun h => h); have hbx10 := hk11.heap hbx10 (fun h => h); have K10 := K10.trans hk11 (fun _ _ h => h.elim); have hO10x := hO10x.kept hk11 (fun _ _ h => h))
                  | ((with_reducible refine at_ 93 rfl ?_); go_must (refine step_load rfl _ _ rfl w8.heap.size 0 (askC q (.slice A8 q.body.length c8)) _ _ (0, 0) _ rfl hb10 rfl Try.underlying58 rfl (info_askC _ _) ?_))
                  | ((with_reducible refine at_ 92 rfl ?_); go_must (refine step_load rfl _ _ rfl w.heap.size 0 (askC a (.slice A a.body.length c)) _ _ (0, 0) _ rfl h010 rfl Try.underlying58 rfl (info_askC _ _) ?_))
                  | ((with_reducible refine at_store 58 (.tmp 7) (.tmp 87) rfl ?_); go_must (refine step_store rfl _ _ _ rfl w8.heap.size 0 (askC q (.slice A8 q.body.length c8)) _ _ rfl rfl hb9 (by simp [askC_len]) (info_askC _ _) (by simp [askC, Value.oneCell']) ?_); intro w10 hb10 hk10 hs10; rw [put_whole (by rfl)] at hb10; have K910 := hk9.trans hk10 (fun k hk h => by omega); have K710 := hk8.trans K910 (fun _ _ h => h); have K10 := KX.trans K710 (fun _ _ h => h.elim); have hbx10 := K710.heap hbX (fun h => h); have hO10x := hOX.kept K710 (fun _ _ h => h); have hb1z := K10.heap H1.out (fun h => by omega); have h010 := K10.heap H0.out (fun h => by omega); have hR10q := hO8.rd.kept K910 (fun _ _ h => h); have hR10a := HR.out.kept (HK.out.trans K10 (fun k hk h => by omega)) (fun _ _ h => h))
                  | ((with_reducible refine at_ 7 rfl ?_); go_must (refine step_alloc rfl _ rfl _ (askC zeroA (.slice none 0 0)) row_ask rfl ?_); intro w9 hb9 hk9 hs9)
                  | (go_at_call 28; go_loud (rw [← HXV.out]); go_loud (refine Rets.use (HXp.out _ _ _ hOX.rd) ?_); rintro _ w8 ⟨hk8, u8, rfl, hO8⟩; obtain ⟨A8, c8, rfl, _⟩ := hO8.slice)
                  | ((with_reducible refine at_ 85 rfl ?_); go_must (refine step_load rfl _ _ rfl (w.heap.size + 1 + 1) 0 [.string sGET, .string ((⟨#[47, 106, 111, 98, 115, 47]⟩ : ByteArray) ++ sa), .string ⟨#[]⟩, .slice none 0 0] _ _ (0, 0) _ rfl hbX rfl Try.underlying55 rfl info_req ?_))
                  | ((with_reducible refine at_store 9 (.tmp 56) (.tmp 55) rfl ?_); go_must (refine step_store1 rfl _ _ _ rfl (w.heap.size + 1 + 1) 1 (.string ((⟨#[47, 106, 111, 98, 115, 47]⟩ : ByteArray) ++ sa)) _ _ rfl rfl rfl HX0.out (by simp) info_str ?_); intro w7 hb7 hk7 hs7; have KX := hk7; have hbX : w7.heap[w.heap.size + 1 + 1]? = some (.cells [.string sGET, .string ((⟨#[47, 106, 111, 98, 115, 47]⟩ : ByteArray) ++ sa), .string ⟨#[]⟩, .slice none 0 0].toArray 55 (0, 0)) := hb7; have hOX : OwnRow w7 (fun k => w.heap.size + 1 + 1 < k) 5 1 (.slice none 0 0) X.body.length (Disk.bytes8 X.body) := (by rw [hxb]; exact OwnRow.nil _ _ _ _)))
                rw [put_whole (by rfl)] at hb12
                refine bodyPost_ret (ret_cell_tmp rfl [.string ⟨#[]⟩, .string ⟨#[]⟩, .string ⟨#[]⟩, .slice none 0 0] _ rfl hb12 Try.underlying55 rfl info_req) rfl ?_
                rw [HF.out]
                exact ⟨(HK.out.trans K10 (fun k hk h => by omega)).trans hk12 (fun _ hk h => by omega), _, rfl, OwnRow.nil _ _ _ _⟩
            · have HF := Lib.hid (show printP a = (zeroR, 2) by rw [HPP.out, if_neg (fun h => hc h.1)])
              have hcb : (code != 200) = true := by simpa using hc
              clear hc HPP
              go_wp2_with (first
                | ((with_reducible refine at_ 97 rfl ?_); go_must (refine step_build rfl 55 _ rfl [] rfl _ build_req0 ?_))
                | ((with_reducible refine at_store 55 (.tmp 2) (.tmp 97) rfl ?_); go_must (refine step_store rfl _ _ _ rfl (w.heap.size + 1) 0 [.string ⟨#[]⟩, .string ⟨#[]⟩, .string ⟨#[]⟩, .slice none 0 0] _ _ rfl rfl hb1z (by simp) info_req (by simp [Value.oneCell']) ?_); intro w12 hb12 hk12 hs12)
                | ((with_reducible refine at_store 58 (.tmp 7) (.tmp 87) rfl ?_); go_must (refine step_store rfl _ _ _ rfl w8.heap.size 0 (askC q (.slice A8 q.body.length c8)) _ _ rfl rfl hb9 (by simp [askC_len]) (info_askC _ _) (by simp [askC, Value.oneCell']) ?_); intro w10 hb10 hk10 hs10; rw [put_whole (by rfl)] at hb10; have K910 := hk9.trans hk10 (fun k hk h => by omega); have K710 := hk8.trans K910 (fun _ _ h => h); have K10 := KX.trans K710 (fun _ _ h => h.elim); have hbx10 := K710.heap hbX (fun h => h); have hO10x := hOX.kept K710 (fun _ _ h => h); have hb1z := K10.heap H1.out (fun h => by omega); have h010 := K10.heap H0.out (fun h => by omega); have hR10q := hO8.rd.kept K910 (fun _ _ h => h); have hR10a := HR.out.kept (HK.out.trans K10 (fun k hk h => by omega)) (fun _ _ h => h))
                | ((with_reducible refine at_ 7 rfl ?_); go_must (refine step_alloc rfl _ rfl _ (askC zeroA (.slice none 0 0)) row_ask rfl ?_); intro w9 hb9 hk9 hs9)
                | (go_at_call 28; go_loud (rw [← HXV.out]); go_loud (refine Rets.use (HXp.out _ _ _ hOX.rd) ?_); rintro _ w8 ⟨hk8, u8, rfl, hO8⟩; obtain ⟨A8, c8, rfl, _⟩ := hO8.slice)
                | ((with_reducible refine at_ 85 rfl ?_); go_must (refine step_load rfl _ _ rfl (w.heap.size + 1 + 1) 0 [.string sGET, .string ((⟨#[47, 106, 111, 98, 115, 47]⟩ : ByteArray) ++ sa), .string ⟨#[]⟩, .slice none 0 0] _ _ (0, 0) _ rfl hbX rfl Try.underlying55 rfl info_req ?_))
                | ((with_reducible refine at_store 9 (.tmp 56) (.tmp 55) rfl ?_); go_must (refine step_store1 rfl _ _ _ rfl (w.heap.size + 1 + 1) 1 (.string ((⟨#[47, 106, 111, 98, 115, 47]⟩ : ByteArray) ++ sa)) _ _ rfl rfl rfl HX0.out (by simp) info_str ?_); intro w7 hb7 hk7 hs7; have KX := hk7; have hbX : w7.heap[w.heap.size + 1 + 1]? = some (.cells [.string sGET, .string ((⟨#[47, 106, 111, 98, 115, 47]⟩ : ByteArray) ++ sa), .string ⟨#[]⟩, .slice none 0 0].toArray 55 (0, 0)) := hb7; have hOX : OwnRow w7 (fun k => w.heap.size + 1 + 1 < k) 5 1 (.slice none 0 0) X.body.length (Disk.bytes8 X.body) := (by rw [hxb]; exact OwnRow.nil _ _ _ _)))
              rw [put_whole (by rfl)] at hb12
              refine bodyPost_ret (ret_cell_tmp rfl [.string ⟨#[]⟩, .string ⟨#[]⟩, .string ⟨#[]⟩, .slice none 0 0] _ rfl hb12 Try.underlying55 rfl info_req) rfl ?_
              rw [HF.out]
              exact ⟨(HK.out.trans K10 (fun k hk h => by omega)).trans hk12 (fun _ hk h => by omega), _, rfl, OwnRow.nil _ _ _ _⟩
          · by_cases hk6 : a.kind = 6
            · rw [hk6] at a0
              have HGk := Lib.hid (show formK a.kind = some ⟨⟨#[104, 101, 97, 100, 115]⟩, 1, true, sGET, 6⟩ by rw [hk6]; exact formK_6)
              have hxt : str (reqG ⟨⟨#[104, 101, 97, 100, 115]⟩, 1, true, sGET, 6⟩ a).target = (⟨#[47, 104, 101, 97, 100, 115, 47]⟩ : ByteArray) ++ sa := by rw [tgt_6]; rw [HSa.out]
              have hxm : str (reqG ⟨⟨#[104, 101, 97, 100, 115]⟩, 1, true, sGET, 6⟩ a).method = sGET := (str_of _).symm
              have hxb : (reqG ⟨⟨#[104, 101, 97, 100, 115]⟩, 1, true, sGET, 6⟩ a).body = [] := by unfold reqG; simp only; first | rfl | (rw [show (sGET.toList == [80, 85, 84]) = false by rw [ByteArray.toList_eq]; rfl]; rfl)
              clear hk1
              clear hk2
              clear hk3
              clear hk4
              clear hk5
              clear hk6
              have hpk := print_pack ha hl1 hl2 hl3 HGk.out
              have HPP := Lib.hid (show printP a = if (parseP (reqG ⟨⟨#[104, 101, 97, 100, 115]⟩, 1, true, sGET, 6⟩ a)).2 = 200 ∧ (parseP (reqG ⟨⟨#[104, 101, 97, 100, 115]⟩, 1, true, sGET, 6⟩ a)).1 = a then (reqG ⟨⟨#[104, 101, 97, 100, 115]⟩, 1, true, sGET, 6⟩ a, 0) else (zeroR, 2) by unfold printP; rw [HGk.out])
              have HXV := Lib.hid (fun u => show reqV (reqG ⟨⟨#[104, 101, 97, 100, 115]⟩, 1, true, sGET, 6⟩ a) u = .agg #[.string sGET, .string ((⟨#[47, 104, 101, 97, 100, 115, 47]⟩ : ByteArray) ++ sa), .string ⟨#[]⟩, u] by unfold reqV; rw [hxm, hxt]; rfl)
              have HXp := Lib.hid (fun (w : World) (ok : Nat → Prop) u h => rparse23_c (w := w) (ok := ok) (reqG ⟨⟨#[104, 101, 97, 100, 115]⟩, 1, true, sGET, 6⟩ a) hpk.1 (by have := hpk.2.1; omega) (by have := hpk.2.2; omega) u h)
              obtain ⟨hqo, hql⟩ := parseP_ok hpk.1
              have hql : (parseP (reqG ⟨⟨#[104, 101, 97, 100, 115]⟩, 1, true, sGET, 6⟩ a)).1.body.length ≤ 4200 := by have := hpk.2.2; omega
              clear hxt hxm hpk HGk
              generalize reqG ⟨⟨#[104, 101, 97, 100, 115]⟩, 1, true, sGET, 6⟩ a = X at *
              generalize parseP X = pr at *
              obtain ⟨q, code⟩ := pr
              simp only at HPP hqo hql
              have HSm := Lib.hid (fun (w : World) (ok ok2 : Nat → Prop) v u h1 h2 => same23_c (w := w) (ok := ok) (ok2 := ok2) a q ha hqo v u h1 h2 (by omega))
              by_cases hc : code = 200
              · subst hc
                have hcb : ((200 : Int) != 200) = false := rfl
                by_cases hq : a = q
                · have HF := Lib.hid (show printP a = (X, 0) by rw [HPP.out, if_pos ⟨rfl, hq.symm⟩])
                  rw [decide_eq_true hq] at HSm
                  clear hq HPP
                  go_wp2_with (first
                    | ((with_reducible refine at_ 98 rfl ?_); go_must (refine step_load rfl _ _ rfl (w.heap.size + 1 + 1) 0 [.string sGET, .string ((⟨#[47, 104, 101, 97, 100, 115, 47]⟩ : ByteArray) ++ sa), .string ⟨#[]⟩, .slice none 0 0] _ _ (0, 0) _ rfl hbx10 rfl Try.underlying55 rfl info_req ?_))
                    | ((with_reducible refine at_store 55 (.tmp 2) (.tmp 98) rfl ?_); go_must (refine step_store rfl _ _ _ rfl (w.heap.size + 1) 0 [.string sGET, .string ((⟨#[47, 104, 101, 97, 100, 115, 47]⟩ : ByteArray) ++ sa), .string ⟨#[]⟩, .slice none 0 0] _ _ rfl rfl hb1z (by simp) info_req (by simp [Value.oneCell']) ?_); intro w12 hb12 hk12 hs12)
                    | (go_at_call 29; go_loud (refine Rets.use (HSm.out w10 _ _ _ _ hR10a hR10q) ?_); rintro _ w11 ⟨rfl, hk11⟩; have hb1z := hk11.heap hb1z (fun h => h); have hbx10 := hk11.heap hbx10 (fun h => h); have K10 := K10.trans hk11 (fun _ _ h => h.elim); have hO10x := hO10x.kept hk11 (fun _ _ h => h))
                    | ((with_reducible refine at_ 93 rfl ?_); go_must (refine step_load rfl _ _ rfl w8.heap.size 0 (askC q (.slice A8 q.body.length c8)) _ _ (0, 0) _ rfl hb10 rfl Try.underlying58 rfl (info_askC _ _) ?_))
                    | ((with_reducible refine at_ 92 rfl ?_); go_must (refine step_load rfl _ _ rfl w.heap.size 0 (askC a (.slice A a.body.length c)) _ _ (0, 0) _ rfl h010 rfl Try.underlying58 rfl (info_askC _ _) ?_))
                    | ((with_reducible refine at_store 58 (.tmp 7) (.tmp 87) rfl ?_); go_must (refine step_store rfl _ _ _ rfl w8.heap.size 0 (askC q (.slice A8 q.body.length c8)) _ _ rfl rfl hb9 (by simp [askC_len]) (info_askC _ _) (by simp [askC, Value.oneCell']) ?_); intro w10 hb10 hk10 hs10; rw [put_whole (by rfl)] at hb10; have K910 := hk9.trans hk10 (fun k hk h => by omega); have K710 := hk8.trans K910 (fun _ _ h => h); have K10 := KX.trans K710 (fun _ _ h => h.elim); have hbx10 := K710.heap hbX (fun h => h); have hO10x := hOX.kept K710 (fun _ _ h => h); have hb1z := K10.heap H1.out (fun h => by omega); have h010 := K10.heap H0.out (fun h => by omega); have hR10q := hO8.rd.kept K910 (fun _ _ h => h); have hR10a := HR.out.kept (HK.out.trans K10 (fun k hk h => by omega)) (fun _ _ h => h))
                    | ((with_reducible refine at_ 7 rfl ?_); go_must (refine step_alloc rfl _ rfl _ (askC zeroA (.slice none 0 0)) row_ask rfl ?_); intro w9 hb9 hk9 hs9)
                    | (go_at_call 28; go_loud (rw [← HXV.out]); go_loud (refine Rets.use (HXp.out _ _ _ hOX.rd) ?_); rintro _ w8 ⟨hk8, u8, rfl, hO8⟩; obtain ⟨A8, c8, rfl, _⟩ := hO8.slice)
                    | ((with_reducible refine at_ 85 rfl ?_); go_must (refine step_load rfl _ _ rfl (w.heap.size + 1 + 1) 0 [.string sGET, .string ((⟨#[47, 104, 101, 97, 100, 115, 47]⟩ : ByteArray) ++ sa), .string ⟨#[]⟩, .slice none 0 0] _ _ (0, 0) _ rfl hbX rfl Try.underlying55 rfl info_req ?_))
                    | ((with_reducible refine at_store 9 (.tmp 61) (.tmp 60) rfl ?_); go_must (refine step_store1 rfl _ _ _ rfl (w.heap.size + 1 + 1) 1 (.string ((⟨#[47, 104, 101, 97, 100, 115, 47]⟩ : ByteArray) ++ sa)) _ _ rfl rfl rfl HX0.out (by simp) info_str ?_); intro w7 hb7 hk7 hs7; have KX := hk7; have hbX : w7.heap[w.heap.size + 1 + 1]? = some (.cells [.string sGET, .string ((⟨#[47, 104, 101, 97, 100, 115, 47]⟩ : ByteArray) ++ sa), .string ⟨#[]⟩, .slice none 0 0].toArray 55 (0, 0)) := hb7; have hOX : OwnRow w7 (fun k => w.heap.size + 1 + 1 < k) 5 1 (.slice none 0 0) X.body.length (Disk.bytes8 X.body) := (by rw [hxb]; exact OwnRow.nil _ _ _ _)))
                  rw [put_whole (by rfl)] at hb12
                  refine bodyPost_ret (ret_cell_tmp rfl [.string sGET, .string ((⟨#[47, 104, 101, 97, 100, 115, 47]⟩ : ByteArray) ++ sa), .string ⟨#[]⟩, .slice none 0 0] _ rfl hb12 Try.underlying55 rfl info_req) rfl ?_
                  rw [HF.out]
                  refine ⟨(HK.out.trans K10 (fun k hk h => by omega)).trans hk12 (fun _ hk h => by omega), .slice none 0 0, by rw [HXV.out] <;> rfl, ?_⟩
                  exact (hO10x.kept hk12 (fun k h h' => by omega)).mono (fun k hk h => by omega)
                · have HF := Lib.hid (show printP a = (zeroR, 2) by rw [HPP.out, if_neg (fun h => hq h.2.symm)])
                  rw [decide_eq_false hq] at HSm
                  clear hq HPP
                  go_wp2_with (first
                    | ((with_reducible refine at_ 97 rfl ?_); go_must (refine step_build rfl 55 _ rfl [] rfl _ build_req0 ?_))
                    | ((with_reducible refine at_store 55 (.tmp 2) (.tmp 97) rfl ?_); go_must (refine step_store rfl _ _ _ rfl (w.heap.size + 1) 0 [.string ⟨#[]⟩, .string ⟨#[]⟩, .string ⟨#[]⟩, .slice none 0 0] _ _ rfl rfl hb1z (by simp) info_req (by simp [Value.oneCell']) ?_); intro w12 hb12 hk12 hs12)
                    | (go_at_call 29; go_loud (refine Rets.use (HSm.out w10 _ _ _ _ hR10a hR10q) ?_); rintro _ w11 ⟨rfl, hk11⟩; have hb1z := hk11.heap hb1z (fun h => h); have hbx10 := hk11.heap hbx10 (fun h => h); have K10 := K10.trans hk11 (fun _ _ h => h.elim); have hO10x := hO10x.kept hk11 (fun _ _ h => h))
                    | ((with_reducible refine at_ 93 rfl ?_); go_must (refine step_load rfl _ _ rfl w8.heap.size 0 (askC q (.slice A8 q.body.length c8)) _ _ (0, 0) _ rfl hb10 rfl Try.underlying58 rfl (info_askC _ _) ?_))
                    | ((with_reducible refine at_ 92 rfl ?_); go_must (refine step_load rfl _ _ rfl w.heap.size 0 (askC a (.slice A a.body.length c)) _ _ (0, 0) _ rfl h010 rfl Try.underlying58 rfl (info_askC _ _) ?_))
                    | ((with_reducible refine at_store 58 (.tmp 7) (.tmp 87) rfl ?_); go_must (refine step_store rfl _ _ _ rfl w8.heap.size 0 (askC q (.slice A8 q.body.length c8)) _ _ rfl rfl hb9 (by simp [askC_len]) (info_askC _ _) (by simp [askC, Value.oneCell']) ?_); intro w10 hb10 hk10 hs10; rw [put_whole (by rfl)] at hb10; have K910 := hk9.trans hk10 (fun k hk h => by omega); have K710 := hk8.trans K910 (fun _ _ h => h); have K10 := KX.trans K710 (fun _ _ h => h.elim); have hbx10 := K710.heap hbX (fun h => h); have hO10x := hOX.kept K710 (fun _ _ h => h); have hb1z := K10.heap H1.out (fun h => by omega); have h010 := K10.heap H0.out (fun h => by omega); have hR10q := hO8.rd.kept K910 (fun _ _ h => h); have hR10a := HR.out.kept (HK.out.trans K10 (fun k hk h => by omega)) (fun _ _ h => h))
                    | ((with_reducible refine at_ 7 rfl ?_); go_must (refine step_alloc rfl _ rfl _ (askC zeroA (.slice none 0 0)) row_ask rfl ?_); intro w9 hb9 hk9 hs9)
                    | (go_at_call 28; go_loud (rw [← HXV.out]); go_loud (refine Rets.use (HXp.out _ _ _ hOX.rd) ?_); rintro _ w8 ⟨hk8, u8, rfl, hO8⟩; obtain ⟨A8, c8, rfl, _⟩ := hO8.slice)
                    | ((with_reducible refine at_ 85 rfl ?_); go_must (refine step_load rfl _ _ rfl (w.heap.size + 1 + 1) 0 [.string sGET, .string ((⟨#[47, 104, 101, 97, 100, 115, 47]⟩ : ByteArray) ++ sa), .string ⟨#[]⟩, .slice none 0 0] _ _ (0, 0) _ rfl hbX rfl Try.underlying55 rfl info_req ?_))
                    | ((with_reducible refine at_store 9 (.tmp 61) (.tmp 60) rfl ?_); go_must (refine step_store1 rfl _ _ _ rfl (w.heap.size + 1 + 1) 1 (.string ((⟨#[47, 104, 101, 97, 100, 115, 47]⟩ : ByteArray) ++ sa)) _ _ rfl rfl rfl HX0.out (by simp) info_str ?_); intro w7 hb7 hk7 hs7; have KX := hk7; have hbX : w7.heap[w.heap.size + 1 + 1]? = some (.cells [.string sGET, .string ((⟨#[47, 104, 101, 97, 100, 115, 47]⟩ : ByteArray) ++ sa), .string ⟨#[]⟩, .slice none 0 0].toArray 55 (0, 0)) := hb7; have hOX : OwnRow w7 (fun k => w.heap.size + 1 + 1 < k) 5 1 (.slice none 0 0) X.body.length (Disk.bytes8 X.body) := (by rw [hxb]; exact OwnRow.nil _ _ _ _)))
                  rw [put_whole (by rfl)] at hb12
                  refine bodyPost_ret (ret_cell_tmp rfl [.string ⟨#[]⟩, .string ⟨#[]⟩, .string ⟨#[]⟩, .slice none 0 0] _ rfl hb12 Try.underlying55 rfl info_req) rfl ?_
                  rw [HF.out]
                  exact ⟨(HK.out.trans K10 (fun k hk h => by omega)).trans hk12 (fun _ hk h => by omega), _, rfl, OwnRow.nil _ _ _ _⟩
              · have HF := Lib.hid (show printP a = (zeroR, 2) by rw [HPP.out, if_neg (fun h => hc h.1)])
                have hcb : (code != 200) = true := by simpa using hc
                clear hc HPP
                go_wp2_with (first
                  | ((with_reducible refine at_ 97 rfl ?_); go_must (refine step_build rfl 55 _ rfl [] rfl _ build_req0 ?_))
                  | ((with_reducible refine at_store 55 (.tmp 2) (.tmp 97) rfl ?_); go_must (refine step_store rfl _ _ _ rfl (w.heap.size + 1) 0 [.string ⟨#[]⟩, .string ⟨#[]⟩, .string ⟨#[]⟩, .slice none 0 0] _ _ rfl rfl hb1z (by simp) info_req (by simp [Value.oneCell']) ?_); intro w12 hb12 hk12 hs12)
                  | ((with_reducible refine at_store 58 (.tmp 7) (.tmp 87) rfl ?_); go_must (refine step_store rfl _ _ _ rfl w8.heap.size 0 (askC q (.slice A8 q.body.length c8)) _ _ rfl rfl hb9 (by simp [askC_len]) (info_askC _ _) (by simp [askC, Value.oneCell']) ?_); intro w10 hb10 hk10 hs10; rw [put_whole (by rfl)] at hb10; have K910 := hk9.trans hk10 (fun k hk h => by omega); have K710 := hk8.trans K910 (fun _ _ h => h); have K10 := KX.trans K710 (fun _ _ h => h.elim); have hbx10 := K710.heap hbX (fun h => h); have hO10x := hOX.kept K710 (fun _ _ h => h); have hb1z := K10.heap H1.out (fun h => by omega); have h010 := K10.heap H0.out (fun h => by omega); have hR10q := hO8.rd.kept K910 (fun _ _ h => h); have hR10a := HR.out.kept (HK.out.trans K10 (fun k hk h => by omega)) (fun _ _ h => h))
                  | ((with_reducible refine at_ 7 rfl ?_); go_must (refine step_alloc rfl _ rfl _ (askC zeroA (.slice none 0 0)) row_ask rfl ?_); intro w9 hb9 hk9 hs9)
                  | (go_at_call 28; go_loud (rw [← HXV.out]); go_loud (refine Rets.use (HXp.out _ _ _ hOX.rd) ?_); rintro _ w8 ⟨hk8, u8, rfl, hO8⟩; obtain ⟨A8, c8, rfl, _⟩ := hO8.slice)
                  | ((with_reducible refine at_ 85 rfl ?_); go_must (refine step_load rfl _ _ rfl (w.heap.size + 1 + 1) 0 [.string sGET, .string ((⟨#[47, 104, 101, 97, 100, 115, 47]⟩ : ByteArray) ++ sa), .string ⟨#[]⟩, .slice none 0 0] _ _ (0, 0) _ rfl hbX rfl Try.underlying55 rfl info_req ?_))
                  | ((with_reducible refine at_store 9 (.tmp 61) (.tmp 60) rfl ?_); go_must (refine step_store1 rfl _ _ _ rfl (w.heap.size + 1 + 1) 1 (.string ((⟨#[47, 104, 101, 97, 100, 115, 47]⟩ : ByteArray) ++ sa)) _ _ rfl rfl rfl HX0.out (by simp) info_str ?_); intro w7 hb7 hk7 hs7; have KX := hk7; have hbX : w7.heap[w.heap.size + 1 + 1]? = some (.cells [.string sGET, .string ((⟨#[47, 104, 101, 97, 100, 115, 47]⟩ : ByteArray) ++ sa), .string ⟨#[]⟩, .slice none 0 0].toArray 55 (0, 0)) := hb7; have hOX : OwnRow w7 (fun k => w.heap.size + 1 + 1 < k) 5 1 (.slice none 0 0) X.body.length (Disk.bytes8 X.body) := (by rw [hxb]; exact OwnRow.nil _ _ _ _)))
                rw [put_whole (by rfl)] at hb12
                refine bodyPost_ret (ret_cell_tmp rfl [.string ⟨#[]⟩, .string ⟨#[]⟩, .string ⟨#[]⟩, .slice none 0 0] _ rfl hb12 Try.underlying55 rfl info_req) rfl ?_
                rw [HF.out]
                exact ⟨(HK.out.trans K10 (fun k hk h => by omega)).trans hk12 (fun _ hk h => by omega), _, rfl, OwnRow.nil _ _ _ _⟩
            · by_cases hk7 : a.kind = 7
              · rw [hk7] at a0
                have HGk := Lib.hid (show formK a.kind = some ⟨⟨#[101, 110, 116, 114, 105, 101, 115]⟩, 2, true, sGET, 7⟩ by rw [hk7]; exact formK_7)
                have hxt : str (reqG ⟨⟨#[101, 110, 116, 114, 105, 101, 115]⟩, 2, true, sGET, 7⟩ a).target = (⟨#[47, 101, 110, 116, 114, 105, 101, 115, 47]⟩ : ByteArray) ++ sa ++ (⟨#[47]⟩ : ByteArray) ++ sb := by rw [tgt_7]; rw [HSa.out, HSb.out]
                have hxm : str (reqG ⟨⟨#[101, 110, 116, 114, 105, 101, 115]⟩, 2, true, sGET, 7⟩ a).method = sGET := (str_of _).symm
                have hxb : (reqG ⟨⟨#[101, 110, 116, 114, 105, 101, 115]⟩, 2, true, sGET, 7⟩ a).body = [] := by unfold reqG; simp only; first | rfl | (rw [show (sGET.toList == [80, 85, 84]) = false by rw [ByteArray.toList_eq]; rfl]; rfl)
                clear hk1
                clear hk2
                clear hk3
                clear hk4
                clear hk5
                clear hk6
                clear hk7
                have hpk := print_pack ha hl1 hl2 hl3 HGk.out
                have HPP := Lib.hid (show printP a = if (parseP (reqG ⟨⟨#[101, 110, 116, 114, 105, 101, 115]⟩, 2, true, sGET, 7⟩ a)).2 = 200 ∧ (parseP (reqG ⟨⟨#[101, 110, 116, 114, 105, 101, 115]⟩, 2, true, sGET, 7⟩ a)).1 = a then (reqG ⟨⟨#[101, 110, 116, 114, 105, 101, 115]⟩, 2, true, sGET, 7⟩ a, 0) else (zeroR, 2) by unfold printP; rw [HGk.out])
                have HXV := Lib.hid (fun u => show reqV (reqG ⟨⟨#[101, 110, 116, 114, 105, 101, 115]⟩, 2, true, sGET, 7⟩ a) u = .agg #[.string sGET, .string ((⟨#[47, 101, 110, 116, 114, 105, 101, 115, 47]⟩ : ByteArray) ++ sa ++ (⟨#[47]⟩ : ByteArray) ++ sb), .string ⟨#[]⟩, u] by unfold reqV; rw [hxm, hxt]; rfl)
                have HXp := Lib.hid (fun (w : World) (ok : Nat → Prop) u h => rparse23_c (w := w) (ok := ok) (reqG ⟨⟨#[101, 110, 116, 114, 105, 101, 115]⟩, 2, true, sGET, 7⟩ a) hpk.1 (by have := hpk.2.1; omega) (by have := hpk.2.2; omega) u h)
                obtain ⟨hqo, hql⟩ := parseP_ok hpk.1
                have hql : (parseP (reqG ⟨⟨#[101, 110, 116, 114, 105, 101, 115]⟩, 2, true, sGET, 7⟩ a)).1.body.length ≤ 4200 := by have := hpk.2.2; omega
                clear hxt hxm hpk HGk
                generalize reqG ⟨⟨#[101, 110, 116, 114, 105, 101, 115]⟩, 2, true, sGET, 7⟩ a = X at *
                generalize parseP X = pr at *
                obtain ⟨q, code⟩ := pr
                simp only at HPP hqo hql
                have HSm := Lib.hid (fun (w : World) (ok ok2 : Nat → Prop) v u h1 h2 => same23_c (w := w) (ok := ok) (ok2 := ok2) a q ha hqo v u h1 h2 (by omega))
                by_cases hc : code = 200
                · subst hc
                  have hcb : ((200 : Int) != 200) = false := rfl
                  by_cases hq : a = q
                  · have HF := Lib.hid (show printP a = (X, 0) by rw [HPP.out, if_pos ⟨rfl, hq.symm⟩])
                    rw [decide_eq_true hq] at HSm
                    clear hq HPP
                    go_wp2_with (first
                      | ((with_reducible refine at_ 98 rfl ?_); go_must (refine step_load rfl _ _ rfl (w.heap.size + 1 + 1) 0 [.string sGET, .string ((⟨#[47, 101, 110, 116, 114, 105, 101, 115, 47]⟩ : ByteArray) ++ sa ++ (⟨#[47]⟩ : ByteArray) ++ sb), .string ⟨#[]⟩, .slice none 0 0] _ _ (0, 0) _ rfl hbx10 rfl Try.underlying55 rfl info_req ?_))
                      | ((with_reducible refine at_store 55 (.tmp 2) (.tmp 98) rfl ?_); go_must (refine step_store rfl _ _ _ rfl (w.heap.size + 1) 0 [.string sGET, .string ((⟨#[47, 101, 110, 116, 114, 105, 101, 115, 47]⟩ : ByteArray) ++ sa ++ (⟨#[47]⟩ : ByteArray) ++ sb), .string ⟨#[]⟩, .slice none 0 0] _ _ rfl rfl hb1z (by simp) info_req (by simp [Value.oneCell']) ?_); intro w12 hb12 hk12 hs12)
                      | (go_at_call 29; go_loud (refine Rets.use (HSm.out w10 _ _ _ _ hR10a hR10q) ?_); rintro _ w11 ⟨rfl, hk11⟩; have hb1z := hk11.heap hb1z (fun h => h); have hbx10 := hk11.heap hbx10 (fun h => h); have K10 := K10.trans hk11 (fun _ _ h => h.elim); have hO10x := hO10x.kept hk11 (fun _ _ h => h))
                      | ((with_reducible refine at_ 93 rfl ?_); go_must (refine step_load rfl _ _ rfl w8.heap.size 0 (askC q (.slice A8 q.body.length c8)) _ _ (0, 0) _ rfl hb10 rfl Try.underlying58 rfl (info_askC _ _) ?_))
                      | ((with_reducible refine at_ 92 rfl ?_); go_must (refine step_load rfl _ _ rfl w.heap.size 0 (askC a (.slice A a.body.length c)) _ _ (0, 0) _ rfl h010 rfl Try.underlying58 rfl (info_askC _ _) ?_))
                      | ((with_reducible refine at_store 58 (.tmp 7) (.tmp 87) rfl ?_); go_must (refine step_store rfl _ _ _ rfl w8.heap.size 0 (askC q (.slice A8 q.body.length c8)) _ _ rfl rfl hb9 (by simp [askC_len]) (info_askC _ _) (by simp [askC, Value.oneCell']) ?_); intro w10 hb10 hk10 hs10; rw [put_whole (by rfl)] at hb10; have K910 := hk9.trans hk10 (fun k hk h => by omega); have K710 := hk8.trans K910 (fun _ _ h => h); have K10 := KX.trans K710 (fun _ _ h => h.elim); have hbx10 := K710.heap hbX (fun h => h); have hO10x := hOX.kept K710 (fun _ _ h => h); have hb1z := K10.heap H1.out (fun h => by omega); have h010 := K10.heap H0.out (fun h => by omega); have hR10q := hO8.rd.kept K910 (fun _ _ h => h); have hR10a := HR.out.kept (HK.out.trans K10 (fun k hk h => by omega)) (fun _ _ h => h))
                      | ((with_reducible refine at_ 7 rfl ?_); go_must (refine step_alloc rfl _ rfl _ (askC zeroA (.slice none 0 0)) row_ask rfl ?_); intro w9 hb9 hk9 hs9)
                      | (go_at_call 28; go_loud (rw [← HXV.out]); go_loud (refine Rets.use (HXp.out _ _ _ hOX.rd) ?_); rintro _ w8 ⟨hk8, u8, rfl, hO8⟩; obtain ⟨A8, c8, rfl, _⟩ := hO8.slice)
                      | ((with_reducible refine at_ 85 rfl ?_); go_must (refine step_load rfl _ _ rfl (w.heap.size + 1 + 1) 0 [.string sGET, .string ((⟨#[47, 101, 110, 116, 114, 105, 101, 115, 47]⟩ : ByteArray) ++ sa ++ (⟨#[47]⟩ : ByteArray) ++ sb), .string ⟨#[]⟩, .slice none 0 0] _ _ (0, 0) _ rfl hbX rfl Try.underlying55 rfl info_req ?_))
                      | ((with_reducible refine at_store 9 (.tmp 69) (.tmp 68) rfl ?_); go_must (refine step_store1 rfl _ _ _ rfl (w.heap.size + 1 + 1) 1 (.string ((⟨#[47, 101, 110, 116, 114, 105, 101, 115, 47]⟩ : ByteArray) ++ sa ++ (⟨#[47]⟩ : ByteArray) ++ sb)) _ _ rfl rfl rfl HX0.out (by simp) info_str ?_); intro w7 hb7 hk7 hs7; have KX := hk7; have hbX : w7.heap[w.heap.size + 1 + 1]? = some (.cells [.string sGET, .string ((⟨#[47, 101, 110, 116, 114, 105, 101, 115, 47]⟩ : ByteArray) ++ sa ++ (⟨#[47]⟩ : ByteArray) ++ sb), .string ⟨#[]⟩, .slice none 0 0].toArray 55 (0, 0)) := hb7; have hOX : OwnRow w7 (fun k => w.heap.size + 1 + 1 < k) 5 1 (.slice none 0 0) X.body.length (Disk.bytes8 X.body) := (by rw [hxb]; exact OwnRow.nil _ _ _ _)))
                    rw [put_whole (by rfl)] at hb12
                    refine bodyPost_ret (ret_cell_tmp rfl [.string sGET, .string ((⟨#[47, 101, 110, 116, 114, 105, 101, 115, 47]⟩ : ByteArray) ++ sa ++ (⟨#[47]⟩ : ByteArray) ++ sb), .string ⟨#[]⟩, .slice none 0 0] _ rfl hb12 Try.underlying55 rfl info_req) rfl ?_
                    rw [HF.out]
                    refine ⟨(HK.out.trans K10 (fun k hk h => by omega)).trans hk12 (fun _ hk h => by omega), .slice none 0 0, by rw [HXV.out] <;> rfl, ?_⟩
                    exact (hO10x.kept hk12 (fun k h h' => by omega)).mono (fun k hk h => by omega)
                  · have HF := Lib.hid (show printP a = (zeroR, 2) by rw [HPP.out, if_neg (fun h => hq h.2.symm)])
                    rw [decide_eq_false hq] at HSm
                    clear hq HPP
                    go_wp2_with (first
                      | ((with_reducible refine at_ 97 rfl ?_); go_must (refine step_build rfl 55 _ rfl [] rfl _ build_req0 ?_))
                      | ((with_reducible refine at_store 55 (.tmp 2) (.tmp 97) rfl ?_); go_must (refine step_store rfl _ _ _ rfl (w.heap.size + 1) 0 [.string ⟨#[]⟩, .string ⟨#[]⟩, .string ⟨#[]⟩, .slice none 0 0] _ _ rfl rfl hb1z (by simp) info_req (by simp [Value.oneCell']) ?_); intro w12 hb12 hk12 hs12)
                      | (go_at_call 29; go_loud (refine Rets.use (HSm.out w10 _ _ _ _ hR10a hR10q) ?_); rintro _ w11 ⟨rfl, hk11⟩; have hb1z := hk11.heap hb1z (fun h => h); have hbx10 := hk11.heap hbx10 (fun h => h); have K10 := K10.trans hk11 (fun _ _ h => h.elim); have hO10x := hO10x.kept hk11 (fun _ _ h => h))
                      | ((with_reducible refine at_ 93 rfl ?_); go_must (refine step_load rfl _ _ rfl w8.heap.size 0 (askC q (.slice A8 q.body.length c8)) _ _ (0, 0) _ rfl hb10 rfl Try.underlying58 rfl (info_askC _ _) ?_))
                      | ((with_reducible refine at_ 92 rfl ?_); go_must (refine step_load rfl _ _ rfl w.heap.size 0 (askC a (.slice A a.body.length c)) _ _ (0, 0) _ rfl h010 rfl Try.underlying58 rfl (info_askC _ _) ?_))
                      | ((with_reducible refine at_store 58 (.tmp 7) (.tmp 87) rfl ?_); go_must (refine step_store rfl _ _ _ rfl w8.heap.size 0 (askC q (.slice A8 q.body.length c8)) _ _ rfl rfl hb9 (by simp [askC_len]) (info_askC _ _) (by simp [askC, Value.oneCell']) ?_); intro w10 hb10 hk10 hs10; rw [put_whole (by rfl)] at hb10; have K910 := hk9.trans hk10 (fun k hk h => by omega); have K710 := hk8.trans K910 (fun _ _ h => h); have K10 := KX.trans K710 (fun _ _ h => h.elim); have hbx10 := K710.heap hbX (fun h => h); have hO10x := hOX.kept K710 (fun _ _ h => h); have hb1z := K10.heap H1.out (fun h => by omega); have h010 := K10.heap H0.out (fun h => by omega); have hR10q := hO8.rd.kept K910 (fun _ _ h => h); have hR10a := HR.out.kept (HK.out.trans K10 (fun k hk h => by omega)) (fun _ _ h => h))
                      | ((with_reducible refine at_ 7 rfl ?_); go_must (refine step_alloc rfl _ rfl _ (askC zeroA (.slice none 0 0)) row_ask rfl ?_); intro w9 hb9 hk9 hs9)
                      | (go_at_call 28; go_loud (rw [← HXV.out]); go_loud (refine Rets.use (HXp.out _ _ _ hOX.rd) ?_); rintro _ w8 ⟨hk8, u8, rfl, hO8⟩; obtain ⟨A8, c8, rfl, _⟩ := hO8.slice)
                      | ((with_reducible refine at_ 85 rfl ?_); go_must (refine step_load rfl _ _ rfl (w.heap.size + 1 + 1) 0 [.string sGET, .string ((⟨#[47, 101, 110, 116, 114, 105, 101, 115, 47]⟩ : ByteArray) ++ sa ++ (⟨#[47]⟩ : ByteArray) ++ sb), .string ⟨#[]⟩, .slice none 0 0] _ _ (0, 0) _ rfl hbX rfl Try.underlying55 rfl info_req ?_))
                      | ((with_reducible refine at_store 9 (.tmp 69) (.tmp 68) rfl ?_); go_must (refine step_store1 rfl _ _ _ rfl (w.heap.size + 1 + 1) 1 (.string ((⟨#[47, 101, 110, 116, 114, 105, 101, 115, 47]⟩ : ByteArray) ++ sa ++ (⟨#[47]⟩ : ByteArray) ++ sb)) _ _ rfl rfl rfl HX0.out (by simp) info_str ?_); intro w7 hb7 hk7 hs7; have KX := hk7; have hbX : w7.heap[w.heap.size + 1 + 1]? = some (.cells [.string sGET, .string ((⟨#[47, 101, 110, 116, 114, 105, 101, 115, 47]⟩ : ByteArray) ++ sa ++ (⟨#[47]⟩ : ByteArray) ++ sb), .string ⟨#[]⟩, .slice none 0 0].toArray 55 (0, 0)) := hb7; have hOX : OwnRow w7 (fun k => w.heap.size + 1 + 1 < k) 5 1 (.slice none 0 0) X.body.length (Disk.bytes8 X.body) := (by rw [hxb]; exact OwnRow.nil _ _ _ _)))
                    rw [put_whole (by rfl)] at hb12
                    refine bodyPost_ret (ret_cell_tmp rfl [.string ⟨#[]⟩, .string ⟨#[]⟩, .string ⟨#[]⟩, .slice none 0 0] _ rfl hb12 Try.underlying55 rfl info_req) rfl ?_
                    rw [HF.out]
                    exact ⟨(HK.out.trans K10 (fun k hk h => by omega)).trans hk12 (fun _ hk h => by omega), _, rfl, OwnRow.nil _ _ _ _⟩
                · have HF := Lib.hid (show printP a = (zeroR, 2) by rw [HPP.out, if_neg (fun h => hc h.1)])
                  have hcb : (code != 200) = true := by simpa using hc
                  clear hc HPP
                  go_wp2_with (first
                    | ((with_reducible refine at_ 97 rfl ?_); go_must (refine step_build rfl 55 _ rfl [] rfl _ build_req0 ?_))
                    | ((with_reducible refine at_store 55 (.tmp 2) (.tmp 97) rfl ?_); go_must (refine step_store rfl _ _ _ rfl (w.heap.size + 1) 0 [.string ⟨#[]⟩, .string ⟨#[]⟩, .string ⟨#[]⟩, .slice none 0 0] _ _ rfl rfl hb1z (by simp) info_req (by simp [Value.oneCell']) ?_); intro w12 hb12 hk12 hs12)
                    | ((with_reducible refine at_store 58 (.tmp 7) (.tmp 87) rfl ?_); go_must (refine step_store rfl _ _ _ rfl w8.heap.size 0 (askC q (.slice A8 q.body.length c8)) _ _ rfl rfl hb9 (by simp [askC_len]) (info_askC _ _) (by simp [askC, Value.oneCell']) ?_); intro w10 hb10 hk10 hs10; rw [put_whole (by rfl)] at hb10; have K910 := hk9.trans hk10 (fun k hk h => by omega); have K710 := hk8.trans K910 (fun _ _ h => h); have K10 := KX.trans K710 (fun _ _ h => h.elim); have hbx10 := K710.heap hbX (fun h => h); have hO10x := hOX.kept K710 (fun _ _ h => h); have hb1z := K10.heap H1.out (fun h => by omega); have h010 := K10.heap H0.out (fun h => by omega); have hR10q := hO8.rd.kept K910 (fun _ _ h => h); have hR10a := HR.out.kept (HK.out.trans K10 (fun k hk h => by omega)) (fun _ _ h => h))
                    | ((with_reducible refine at_ 7 rfl ?_); go_must (refine step_alloc rfl _ rfl _ (askC zeroA (.slice none 0 0)) row_ask rfl ?_); intro w9 hb9 hk9 hs9)
                    | (go_at_call 28; go_loud (rw [← HXV.out]); go_loud (refine Rets.use (HXp.out _ _ _ hOX.rd) ?_); rintro _ w8 ⟨hk8, u8, rfl, hO8⟩; obtain ⟨A8, c8, rfl, _⟩ := hO8.slice)
                    | ((with_reducible refine at_ 85 rfl ?_); go_must (refine step_load rfl _ _ rfl (w.heap.size + 1 + 1) 0 [.string sGET, .string ((⟨#[47, 101, 110, 116, 114, 105, 101, 115, 47]⟩ : ByteArray) ++ sa ++ (⟨#[47]⟩ : ByteArray) ++ sb), .string ⟨#[]⟩, .slice none 0 0] _ _ (0, 0) _ rfl hbX rfl Try.underlying55 rfl info_req ?_))
                    | ((with_reducible refine at_store 9 (.tmp 69) (.tmp 68) rfl ?_); go_must (refine step_store1 rfl _ _ _ rfl (w.heap.size + 1 + 1) 1 (.string ((⟨#[47, 101, 110, 116, 114, 105, 101, 115, 47]⟩ : ByteArray) ++ sa ++ (⟨#[47]⟩ : ByteArray) ++ sb)) _ _ rfl rfl rfl HX0.out (by simp) info_str ?_); intro w7 hb7 hk7 hs7; have KX := hk7; have hbX : w7.heap[w.heap.size + 1 + 1]? = some (.cells [.string sGET, .string ((⟨#[47, 101, 110, 116, 114, 105, 101, 115, 47]⟩ : ByteArray) ++ sa ++ (⟨#[47]⟩ : ByteArray) ++ sb), .string ⟨#[]⟩, .slice none 0 0].toArray 55 (0, 0)) := hb7; have hOX : OwnRow w7 (fun k => w.heap.size + 1 + 1 < k) 5 1 (.slice none 0 0) X.body.length (Disk.bytes8 X.body) := (by rw [hxb]; exact OwnRow.nil _ _ _ _)))
                  rw [put_whole (by rfl)] at hb12
                  refine bodyPost_ret (ret_cell_tmp rfl [.string ⟨#[]⟩, .string ⟨#[]⟩, .string ⟨#[]⟩, .slice none 0 0] _ rfl hb12 Try.underlying55 rfl info_req) rfl ?_
                  rw [HF.out]
                  exact ⟨(HK.out.trans K10 (fun k hk h => by omega)).trans hk12 (fun _ hk h => by omega), _, rfl, OwnRow.nil _ _ _ _⟩
              · by_cases hk8 : a.kind = 8
                · rw [hk8] at a0
                  have HGk := Lib.hid (show formK a.kind = some ⟨⟨#[103, 114, 111, 119, 116, 104]⟩, 2, true, sGET, 8⟩ by rw [hk8]; exact formK_8)
                  have hxt : str (reqG ⟨⟨#[103, 114, 111, 119, 116, 104]⟩, 2, true, sGET, 8⟩ a).target = (⟨#[47, 103, 114, 111, 119, 116, 104, 47]⟩ : ByteArray) ++ sa ++ (⟨#[47]⟩ : ByteArray) ++ sb := by rw [tgt_8]; rw [HSa.out, HSb.out]
                  have hxm : str (reqG ⟨⟨#[103, 114, 111, 119, 116, 104]⟩, 2, true, sGET, 8⟩ a).method = sGET := (str_of _).symm
                  have hxb : (reqG ⟨⟨#[103, 114, 111, 119, 116, 104]⟩, 2, true, sGET, 8⟩ a).body = [] := by unfold reqG; simp only; first | rfl | (rw [show (sGET.toList == [80, 85, 84]) = false by rw [ByteArray.toList_eq]; rfl]; rfl)
                  clear hk1
                  clear hk2
                  clear hk3
                  clear hk4
                  clear hk5
                  clear hk6
                  clear hk7
                  clear hk8
                  have hpk := print_pack ha hl1 hl2 hl3 HGk.out
                  have HPP := Lib.hid (show printP a = if (parseP (reqG ⟨⟨#[103, 114, 111, 119, 116, 104]⟩, 2, true, sGET, 8⟩ a)).2 = 200 ∧ (parseP (reqG ⟨⟨#[103, 114, 111, 119, 116, 104]⟩, 2, true, sGET, 8⟩ a)).1 = a then (reqG ⟨⟨#[103, 114, 111, 119, 116, 104]⟩, 2, true, sGET, 8⟩ a, 0) else (zeroR, 2) by unfold printP; rw [HGk.out])
                  have HXV := Lib.hid (fun u => show reqV (reqG ⟨⟨#[103, 114, 111, 119, 116, 104]⟩, 2, true, sGET, 8⟩ a) u = .agg #[.string sGET, .string ((⟨#[47, 103, 114, 111, 119, 116, 104, 47]⟩ : ByteArray) ++ sa ++ (⟨#[47]⟩ : ByteArray) ++ sb), .string ⟨#[]⟩, u] by unfold reqV; rw [hxm, hxt]; rfl)
                  have HXp := Lib.hid (fun (w : World) (ok : Nat → Prop) u h => rparse23_c (w := w) (ok := ok) (reqG ⟨⟨#[103, 114, 111, 119, 116, 104]⟩, 2, true, sGET, 8⟩ a) hpk.1 (by have := hpk.2.1; omega) (by have := hpk.2.2; omega) u h)
                  obtain ⟨hqo, hql⟩ := parseP_ok hpk.1
                  have hql : (parseP (reqG ⟨⟨#[103, 114, 111, 119, 116, 104]⟩, 2, true, sGET, 8⟩ a)).1.body.length ≤ 4200 := by have := hpk.2.2; omega
                  clear hxt hxm hpk HGk
                  generalize reqG ⟨⟨#[103, 114, 111, 119, 116, 104]⟩, 2, true, sGET, 8⟩ a = X at *
                  generalize parseP X = pr at *
                  obtain ⟨q, code⟩ := pr
                  simp only at HPP hqo hql
                  have HSm := Lib.hid (fun (w : World) (ok ok2 : Nat → Prop) v u h1 h2 => same23_c (w := w) (ok := ok) (ok2 := ok2) a q ha hqo v u h1 h2 (by omega))
                  by_cases hc : code = 200
                  · subst hc
                    have hcb : ((200 : Int) != 200) = false := rfl
                    by_cases hq : a = q
                    · have HF := Lib.hid (show printP a = (X, 0) by rw [HPP.out, if_pos ⟨rfl, hq.symm⟩])
                      rw [decide_eq_true hq] at HSm
                      clear hq HPP
                      go_wp2_with (first
                        | ((with_reducible refine at_ 98 rfl ?_); go_must (refine step_load rfl _ _ rfl (w.heap.size + 1 + 1) 0 [.string sGET, .string ((⟨#[47, 103, 114, 111, 119, 116, 104, 47]⟩ : ByteArray) ++ sa ++ (⟨#[47]⟩ : ByteArray) ++ sb), .string ⟨#[]⟩, .slice none 0 0] _ _ (0, 0) _ rfl hbx10 rfl Try.underlying55 rfl info_req ?_))
                        | ((with_reducible refine at_store 55 (.tmp 2) (.tmp 98) rfl ?_); go_must (refine step_store rfl _ _ _ rfl (w.heap.size + 1) 0 [.string sGET, .string ((⟨#[47, 103, 114, 111, 119, 116, 104, 47]⟩ : ByteArray) ++ sa ++ (⟨#[47]⟩ : ByteArray) ++ sb), .string ⟨#[]⟩, .slice none 0 0] _ _ rfl rfl hb1z (by simp) info_req (by simp [Value.oneCell']) ?_); intro w12 hb12 hk12 hs12)
                        | (go_at_call 29; go_loud (refine Rets.use (HSm.out w10 _ _ _ _ hR10a hR10q) ?_); rintro _ w11 ⟨rfl, hk11⟩; have hb1z := hk11.heap hb1z (fun h => h); have hbx10 := hk11.heap hbx10 (fun h => h); have K10 := K10.trans hk11 (fun _ _ h => h.elim); have hO10x := hO10x.kept hk11 (fun _ _ h => h))
                        | ((with_reducible refine at_ 93 rfl ?_); go_must (refine step_load rfl _ _ rfl w8.heap.size 0 (askC q (.slice A8 q.body.length c8)) _ _ (0, 0) _ rfl hb10 rfl Try.underlying58 rfl (info_askC _ _) ?_))
                        | ((with_reducible refine at_ 92 rfl ?_); go_must (refine step_load rfl _ _ rfl w.heap.size 0 (askC a (.slice A a.body.length c)) _ _ (0, 0) _ rfl h010 rfl Try.underlying58 rfl (info_askC _ _) ?_))
                        | ((with_reducible refine at_store 58 (.tmp 7) (.tmp 87) rfl ?_); go_must (refine step_store rfl _ _ _ rfl w8.heap.size 0 (askC q (.slice A8 q.body.length c8)) _ _ rfl rfl hb9 (by simp [askC_len]) (info_askC _ _) (by simp [askC, Value.oneCell']) ?_); intro w10 hb10 hk10 hs10; rw [put_whole (by rfl)] at hb10; have K910 := hk9.trans hk10 (fun k hk h => by omega); have K710 := hk8.trans K910 (fun _ _ h => h); have K10 := KX.trans K710 (fun _ _ h => h.elim); have hbx10 := K710.heap hbX (fun h => h); have hO10x := hOX.kept K710 (fun _ _ h => h); have hb1z := K10.heap H1.out (fun h => by omega); have h010 := K10.heap H0.out (fun h => by omega); have hR10q := hO8.rd.kept K910 (fun _ _ h => h); have hR10a := HR.out.kept (HK.out.trans K10 (fun k hk h => by omega)) (fun _ _ h => h))
                        | ((with_reducible refine at_ 7 rfl ?_); go_must (refine step_alloc rfl _ rfl _ (askC zeroA (.slice none 0 0)) row_ask rfl ?_); intro w9 hb9 hk9 hs9)
                        | (go_at_call 28; go_loud (rw [← HXV.out]); go_loud (refine Rets.use (HXp.out _ _ _ hOX.rd) ?_); rintro _ w8 ⟨hk8, u8, rfl, hO8⟩; obtain ⟨A8, c8, rfl, _⟩ := hO8.slice)
                        | ((with_reducible refine at_ 85 rfl ?_); go_must (refine step_load rfl _ _ rfl (w.heap.size + 1 + 1) 0 [.string sGET, .string ((⟨#[47, 103, 114, 111, 119, 116, 104, 47]⟩ : ByteArray) ++ sa ++ (⟨#[47]⟩ : ByteArray) ++ sb), .string ⟨#[]⟩, .slice none 0 0] _ _ (0, 0) _ rfl hbX rfl Try.underlying55 rfl info_req ?_))
                        | ((with_reducible refine at_store 9 (.tmp 77) (.tmp 76) rfl ?_); go_must (refine step_store1 rfl _ _ _ rfl (w.heap.size + 1 + 1) 1 (.string ((⟨#[47, 103, 114, 111, 119, 116, 104, 47]⟩ : ByteArray) ++ sa ++ (⟨#[47]⟩ : ByteArray) ++ sb)) _ _ rfl rfl rfl HX0.out (by simp) info_str ?_); intro w7 hb7 hk7 hs7; have KX := hk7; have hbX : w7.heap[w.heap.size + 1 + 1]? = some (.cells [.string sGET, .string ((⟨#[47, 103, 114, 111, 119, 116, 104, 47]⟩ : ByteArray) ++ sa ++ (⟨#[47]⟩ : ByteArray) ++ sb), .string ⟨#[]⟩, .slice none 0 0].toArray 55 (0, 0)) := hb7; have hOX : OwnRow w7 (fun k => w.heap.size + 1 + 1 < k) 5 1 (.slice none 0 0) X.body.length (Disk.bytes8 X.body) := (by rw [hxb]; exact OwnRow.nil _ _ _ _)))
                      rw [put_whole (by rfl)] at hb12
                      refine bodyPost_ret (ret_cell_tmp rfl [.string sGET, .string ((⟨#[47, 103, 114, 111, 119, 116, 104, 47]⟩ : ByteArray) ++ sa ++ (⟨#[47]⟩ : ByteArray) ++ sb), .string ⟨#[]⟩, .slice none 0 0] _ rfl hb12 Try.underlying55 rfl info_req) rfl ?_
                      rw [HF.out]
                      refine ⟨(HK.out.trans K10 (fun k hk h => by omega)).trans hk12 (fun _ hk h => by omega), .slice none 0 0, by rw [HXV.out] <;> rfl, ?_⟩
                      exact (hO10x.kept hk12 (fun k h h' => by omega)).mono (fun k hk h => by omega)
                    · have HF := Lib.hid (show printP a = (zeroR, 2) by rw [HPP.out, if_neg (fun h => hq h.2.symm)])
                      rw [decide_eq_false hq] at HSm
                      clear hq HPP
                      go_wp2_with (first
                        | ((with_reducible refine at_ 97 rfl ?_); go_must (refine step_build rfl 55 _ rfl [] rfl _ build_req0 ?_))
                        | ((with_reducible refine at_store 55 (.tmp 2) (.tmp 97) rfl ?_); go_must (refine step_store rfl _ _ _ rfl (w.heap.size + 1) 0 [.string ⟨#[]⟩, .string ⟨#[]⟩, .string ⟨#[]⟩, .slice none 0 0] _ _ rfl rfl hb1z (by simp) info_req (by simp [Value.oneCell']) ?_); intro w12 hb12 hk12 hs12)
                        | (go_at_call 29; go_loud (refine Rets.use (HSm.out w10 _ _ _ _ hR10a hR10q) ?_); rintro _ w11 ⟨rfl, hk11⟩; have hb1z := hk11.heap hb1z (fun h => h); have hbx10 := hk11.heap hbx10 (fun h => h); have K10 := K10.trans hk11 (fun _ _ h => h.elim); have hO10x := hO10x.kept hk11 (fun _ _ h => h))
                        | ((with_reducible refine at_ 93 rfl ?_); go_must (refine step_load rfl _ _ rfl w8.heap.size 0 (askC q (.slice A8 q.body.length c8)) _ _ (0, 0) _ rfl hb10 rfl Try.underlying58 rfl (info_askC _ _) ?_))
                        | ((with_reducible refine at_ 92 rfl ?_); go_must (refine step_load rfl _ _ rfl w.heap.size 0 (askC a (.slice A a.body.length c)) _ _ (0, 0) _ rfl h010 rfl Try.underlying58 rfl (info_askC _ _) ?_))
                        | ((with_reducible refine at_store 58 (.tmp 7) (.tmp 87) rfl ?_); go_must (refine step_store rfl _ _ _ rfl w8.heap.size 0 (askC q (.slice A8 q.body.length c8)) _ _ rfl rfl hb9 (by simp [askC_len]) (info_askC _ _) (by simp [askC, Value.oneCell']) ?_); intro w10 hb10 hk10 hs10; rw [put_whole (by rfl)] at hb10; have K910 := hk9.trans hk10 (fun k hk h => by omega); have K710 := hk8.trans K910 (fun _ _ h => h); have K10 := KX.trans K710 (fun _ _ h => h.elim); have hbx10 := K710.heap hbX (fun h => h); have hO10x := hOX.kept K710 (fun _ _ h => h); have hb1z := K10.heap H1.out (fun h => by omega); have h010 := K10.heap H0.out (fun h => by omega); have hR10q := hO8.rd.kept K910 (fun _ _ h => h); have hR10a := HR.out.kept (HK.out.trans K10 (fun k hk h => by omega)) (fun _ _ h => h))
                        | ((with_reducible refine at_ 7 rfl ?_); go_must (refine step_alloc rfl _ rfl _ (askC zeroA (.slice none 0 0)) row_ask rfl ?_); intro w9 hb9 hk9 hs9)
                        | (go_at_call 28; go_loud (rw [← HXV.out]); go_loud (refine Rets.use (HXp.out _ _ _ hOX.rd) ?_); rintro _ w8 ⟨hk8, u8, rfl, hO8⟩; obtain ⟨A8, c8, rfl, _⟩ := hO8.slice)
                        | ((with_reducible refine at_ 85 rfl ?_); go_must (refine step_load rfl _ _ rfl (w.heap.size + 1 + 1) 0 [.string sGET, .string ((⟨#[47, 103, 114, 111, 119, 116, 104, 47]⟩ : ByteArray) ++ sa ++ (⟨#[47]⟩ : ByteArray) ++ sb), .string ⟨#[]⟩, .slice none 0 0] _ _ (0, 0) _ rfl hbX rfl Try.underlying55 rfl info_req ?_))
                        | ((with_reducible refine at_store 9 (.tmp 77) (.tmp 76) rfl ?_); go_must (refine step_store1 rfl _ _ _ rfl (w.heap.size + 1 + 1) 1 (.string ((⟨#[47, 103, 114, 111, 119, 116, 104, 47]⟩ : ByteArray) ++ sa ++ (⟨#[47]⟩ : ByteArray) ++ sb)) _ _ rfl rfl rfl HX0.out (by simp) info_str ?_); intro w7 hb7 hk7 hs7; have KX := hk7; have hbX : w7.heap[w.heap.size + 1 + 1]? = some (.cells [.string sGET, .string ((⟨#[47, 103, 114, 111, 119, 116, 104, 47]⟩ : ByteArray) ++ sa ++ (⟨#[47]⟩ : ByteArray) ++ sb), .string ⟨#[]⟩, .slice none 0 0].toArray 55 (0, 0)) := hb7; have hOX : OwnRow w7 (fun k => w.heap.size + 1 + 1 < k) 5 1 (.slice none 0 0) X.body.length (Disk.bytes8 X.body) := (by rw [hxb]; exact OwnRow.nil _ _ _ _)))
                      rw [put_whole (by rfl)] at hb12
                      refine bodyPost_ret (ret_cell_tmp rfl [.string ⟨#[]⟩, .string ⟨#[]⟩, .string ⟨#[]⟩, .slice none 0 0] _ rfl hb12 Try.underlying55 rfl info_req) rfl ?_
                      rw [HF.out]
                      exact ⟨(HK.out.trans K10 (fun k hk h => by omega)).trans hk12 (fun _ hk h => by omega), _, rfl, OwnRow.nil _ _ _ _⟩
                  · have HF := Lib.hid (show printP a = (zeroR, 2) by rw [HPP.out, if_neg (fun h => hc h.1)])
                    have hcb : (code != 200) = true := by simpa using hc
                    clear hc HPP
                    go_wp2_with (first
                      | ((with_reducible refine at_ 97 rfl ?_); go_must (refine step_build rfl 55 _ rfl [] rfl _ build_req0 ?_))
                      | ((with_reducible refine at_store 55 (.tmp 2) (.tmp 97) rfl ?_); go_must (refine step_store rfl _ _ _ rfl (w.heap.size + 1) 0 [.string ⟨#[]⟩, .string ⟨#[]⟩, .string ⟨#[]⟩, .slice none 0 0] _ _ rfl rfl hb1z (by simp) info_req (by simp [Value.oneCell']) ?_); intro w12 hb12 hk12 hs12)
                      | ((with_reducible refine at_store 58 (.tmp 7) (.tmp 87) rfl ?_); go_must (refine step_store rfl _ _ _ rfl w8.heap.size 0 (askC q (.slice A8 q.body.length c8)) _ _ rfl rfl hb9 (by simp [askC_len]) (info_askC _ _) (by simp [askC, Value.oneCell']) ?_); intro w10 hb10 hk10 hs10; rw [put_whole (by rfl)] at hb10; have K910 := hk9.trans hk10 (fun k hk h => by omega); have K710 := hk8.trans K910 (fun _ _ h => h); have K10 := KX.trans K710 (fun _ _ h => h.elim); have hbx10 := K710.heap hbX (fun h => h); have hO10x := hOX.kept K710 (fun _ _ h => h); have hb1z := K10.heap H1.out (fun h => by omega); have h010 := K10.heap H0.out (fun h => by omega); have hR10q := hO8.rd.kept K910 (fun _ _ h => h); have hR10a := HR.out.kept (HK.out.trans K10 (fun k hk h => by omega)) (fun _ _ h => h))
                      | ((with_reducible refine at_ 7 rfl ?_); go_must (refine step_alloc rfl _ rfl _ (askC zeroA (.slice none 0 0)) row_ask rfl ?_); intro w9 hb9 hk9 hs9)
                      | (go_at_call 28; go_loud (rw [← HXV.out]); go_loud (refine Rets.use (HXp.out _ _ _ hOX.rd) ?_); rintro _ w8 ⟨hk8, u8, rfl, hO8⟩; obtain ⟨A8, c8, rfl, _⟩ := hO8.slice)
                      | ((with_reducible refine at_ 85 rfl ?_); go_must (refine step_load rfl _ _ rfl (w.heap.size + 1 + 1) 0 [.string sGET, .string ((⟨#[47, 103, 114, 111, 119, 116, 104, 47]⟩ : ByteArray) ++ sa ++ (⟨#[47]⟩ : ByteArray) ++ sb), .string ⟨#[]⟩, .slice none 0 0] _ _ (0, 0) _ rfl hbX rfl Try.underlying55 rfl info_req ?_))
                      | ((with_reducible refine at_store 9 (.tmp 77) (.tmp 76) rfl ?_); go_must (refine step_store1 rfl _ _ _ rfl (w.heap.size + 1 + 1) 1 (.string ((⟨#[47, 103, 114, 111, 119, 116, 104, 47]⟩ : ByteArray) ++ sa ++ (⟨#[47]⟩ : ByteArray) ++ sb)) _ _ rfl rfl rfl HX0.out (by simp) info_str ?_); intro w7 hb7 hk7 hs7; have KX := hk7; have hbX : w7.heap[w.heap.size + 1 + 1]? = some (.cells [.string sGET, .string ((⟨#[47, 103, 114, 111, 119, 116, 104, 47]⟩ : ByteArray) ++ sa ++ (⟨#[47]⟩ : ByteArray) ++ sb), .string ⟨#[]⟩, .slice none 0 0].toArray 55 (0, 0)) := hb7; have hOX : OwnRow w7 (fun k => w.heap.size + 1 + 1 < k) 5 1 (.slice none 0 0) X.body.length (Disk.bytes8 X.body) := (by rw [hxb]; exact OwnRow.nil _ _ _ _)))
                    rw [put_whole (by rfl)] at hb12
                    refine bodyPost_ret (ret_cell_tmp rfl [.string ⟨#[]⟩, .string ⟨#[]⟩, .string ⟨#[]⟩, .slice none 0 0] _ rfl hb12 Try.underlying55 rfl info_req) rfl ?_
                    rw [HF.out]
                    exact ⟨(HK.out.trans K10 (fun k hk h => by omega)).trans hk12 (fun _ hk h => by omega), _, rfl, OwnRow.nil _ _ _ _⟩
                · by_cases hk9 : a.kind = 9
                  · rw [hk9] at a0
                    have HGk := Lib.hid (show formK a.kind = some ⟨⟨#[117, 115, 97, 103, 101]⟩, 0, false, sGET, 9⟩ by rw [hk9]; exact formK_9)
                    have hxt : str (reqG ⟨⟨#[117, 115, 97, 103, 101]⟩, 0, false, sGET, 9⟩ a).target = (⟨#[47, 117, 115, 97, 103, 101]⟩ : ByteArray) := by rw [tgt_9]
                    have hxm : str (reqG ⟨⟨#[117, 115, 97, 103, 101]⟩, 0, false, sGET, 9⟩ a).method = sGET := (str_of _).symm
                    have hxb : (reqG ⟨⟨#[117, 115, 97, 103, 101]⟩, 0, false, sGET, 9⟩ a).body = [] := by unfold reqG; simp only; first | rfl | (rw [show (sGET.toList == [80, 85, 84]) = false by rw [ByteArray.toList_eq]; rfl]; rfl)
                    clear hk1
                    clear hk2
                    clear hk3
                    clear hk4
                    clear hk5
                    clear hk6
                    clear hk7
                    clear hk8
                    clear hk9
                    have hpk := print_pack ha hl1 hl2 hl3 HGk.out
                    have HPP := Lib.hid (show printP a = if (parseP (reqG ⟨⟨#[117, 115, 97, 103, 101]⟩, 0, false, sGET, 9⟩ a)).2 = 200 ∧ (parseP (reqG ⟨⟨#[117, 115, 97, 103, 101]⟩, 0, false, sGET, 9⟩ a)).1 = a then (reqG ⟨⟨#[117, 115, 97, 103, 101]⟩, 0, false, sGET, 9⟩ a, 0) else (zeroR, 2) by unfold printP; rw [HGk.out])
                    have HXV := Lib.hid (fun u => show reqV (reqG ⟨⟨#[117, 115, 97, 103, 101]⟩, 0, false, sGET, 9⟩ a) u = .agg #[.string sGET, .string ((⟨#[47, 117, 115, 97, 103, 101]⟩ : ByteArray)), .string ⟨#[]⟩, u] by unfold reqV; rw [hxm, hxt]; rfl)
                    have HXp := Lib.hid (fun (w : World) (ok : Nat → Prop) u h => rparse23_c (w := w) (ok := ok) (reqG ⟨⟨#[117, 115, 97, 103, 101]⟩, 0, false, sGET, 9⟩ a) hpk.1 (by have := hpk.2.1; omega) (by have := hpk.2.2; omega) u h)
                    obtain ⟨hqo, hql⟩ := parseP_ok hpk.1
                    have hql : (parseP (reqG ⟨⟨#[117, 115, 97, 103, 101]⟩, 0, false, sGET, 9⟩ a)).1.body.length ≤ 4200 := by have := hpk.2.2; omega
                    clear hxt hxm hpk HGk
                    generalize reqG ⟨⟨#[117, 115, 97, 103, 101]⟩, 0, false, sGET, 9⟩ a = X at *
                    generalize parseP X = pr at *
                    obtain ⟨q, code⟩ := pr
                    simp only at HPP hqo hql
                    have HSm := Lib.hid (fun (w : World) (ok ok2 : Nat → Prop) v u h1 h2 => same23_c (w := w) (ok := ok) (ok2 := ok2) a q ha hqo v u h1 h2 (by omega))
                    by_cases hc : code = 200
                    · subst hc
                      have hcb : ((200 : Int) != 200) = false := rfl
                      by_cases hq : a = q
                      · have HF := Lib.hid (show printP a = (X, 0) by rw [HPP.out, if_pos ⟨rfl, hq.symm⟩])
                        rw [decide_eq_true hq] at HSm
                        clear hq HPP
                        go_wp2_with (first
                          | ((with_reducible refine at_ 98 rfl ?_); go_must (refine step_load rfl _ _ rfl (w.heap.size + 1 + 1) 0 [.string sGET, .string ((⟨#[47, 117, 115, 97, 103, 101]⟩ : ByteArray)), .string ⟨#[]⟩, .slice none 0 0] _ _ (0, 0) _ rfl hbx10 rfl Try.underlying55 rfl info_req ?_))
                          | ((with_reducible refine at_store 55 (.tmp 2) (.tmp 98) rfl ?_); go_must (refine step_store rfl _ _ _ rfl (w.heap.size + 1) 0 [.string sGET, .string ((⟨#[47, 117, 115, 97, 103, 101]⟩ : ByteArray)), .string ⟨#[]⟩, .slice none 0 0] _ _ rfl rfl hb1z (by simp) info_req (by simp [Value.oneCell']) ?_); intro w12 hb12 hk12 hs12)
                          | (go_at_call 29; go_loud (refine Rets.use (HSm.out w10 _ _ _ _ hR10a hR10q) ?_); rintro _ w11 ⟨rfl, hk11⟩; have hb1z := hk11.heap hb1z (fun h => h); have hbx10 := hk11.heap hbx10 (fun h => h); have K10 := K10.trans hk11 (fun _ _ h => h.elim); have hO10x := hO10x.kept hk11 (fun _ _ h => h))
                          | ((with_reducible refine at_ 93 rfl ?_); go_must (refine step_load rfl _ _ rfl w8.heap.size 0 (askC q (.slice A8 q.body.length c8)) _ _ (0, 0) _ rfl hb10 rfl Try.underlying58 rfl (info_askC _ _) ?_))
                          | ((with_reducible refine at_ 92 rfl ?_); go_must (refine step_load rfl _ _ rfl w.heap.size 0 (askC a (.slice A a.body.length c)) _ _ (0, 0) _ rfl h010 rfl Try.underlying58 rfl (info_askC _ _) ?_))
                          | ((with_reducible refine at_store 58 (.tmp 7) (.tmp 87) rfl ?_); go_must (refine step_store rfl _ _ _ rfl w8.heap.size 0 (askC q (.slice A8 q.body.length c8)) _ _ rfl rfl hb9 (by simp [askC_len]) (info_askC _ _) (by simp [askC, Value.oneCell']) ?_); intro w10 hb10 hk10 hs10; rw [put_whole (by rfl)] at hb10; have K910 := hk9.trans hk10 (fun k hk h => by omega); have K710 := hk8.trans K910 (fun _ _ h => h); have K10 := KX.trans K710 (fun _ _ h => h.elim); have hbx10 := K710.heap hbX (fun h => h); have hO10x := hOX.kept K710 (fun _ _ h => h); have hb1z := K10.heap H1.out (fun h => by omega); have h010 := K10.heap H0.out (fun h => by omega); have hR10q := hO8.rd.kept K910 (fun _ _ h => h); have hR10a := HR.out.kept (HK.out.trans K10 (fun k hk h => by omega)) (fun _ _ h => h))
                          | ((with_reducible refine at_ 7 rfl ?_); go_must (refine step_alloc rfl _ rfl _ (askC zeroA (.slice none 0 0)) row_ask rfl ?_); intro w9 hb9 hk9 hs9)
                          | (go_at_call 28; go_loud (rw [← HXV.out]); go_loud (refine Rets.use (HXp.out _ _ _ hOX.rd) ?_); rintro _ w8 ⟨hk8, u8, rfl, hO8⟩; obtain ⟨A8, c8, rfl, _⟩ := hO8.slice)
                          | ((with_reducible refine at_ 85 rfl ?_); go_must (refine step_load rfl _ _ rfl (w.heap.size + 1 + 1) 0 [.string sGET, .string ((⟨#[47, 117, 115, 97, 103, 101]⟩ : ByteArray)), .string ⟨#[]⟩, .slice none 0 0] _ _ (0, 0) _ rfl hbX rfl Try.underlying55 rfl info_req ?_))
                          | ((with_reducible refine at_store 9 (.tmp 80) (.const (.string ⟨#[47, 117, 115, 97, 103, 101]⟩)) rfl ?_); go_must (refine step_store1 rfl _ _ _ rfl (w.heap.size + 1 + 1) 1 (.string ((⟨#[47, 117, 115, 97, 103, 101]⟩ : ByteArray))) _ _ rfl rfl rfl HX0.out (by simp) info_str ?_); intro w7 hb7 hk7 hs7; have KX := hk7; have hbX : w7.heap[w.heap.size + 1 + 1]? = some (.cells [.string sGET, .string ((⟨#[47, 117, 115, 97, 103, 101]⟩ : ByteArray)), .string ⟨#[]⟩, .slice none 0 0].toArray 55 (0, 0)) := hb7; have hOX : OwnRow w7 (fun k => w.heap.size + 1 + 1 < k) 5 1 (.slice none 0 0) X.body.length (Disk.bytes8 X.body) := (by rw [hxb]; exact OwnRow.nil _ _ _ _)))
                        rw [put_whole (by rfl)] at hb12
                        refine bodyPost_ret (ret_cell_tmp rfl [.string sGET, .string ((⟨#[47, 117, 115, 97, 103, 101]⟩ : ByteArray)), .string ⟨#[]⟩, .slice none 0 0] _ rfl hb12 Try.underlying55 rfl info_req) rfl ?_
                        rw [HF.out]
                        refine ⟨(HK.out.trans K10 (fun k hk h => by omega)).trans hk12 (fun _ hk h => by omega), .slice none 0 0, by rw [HXV.out] <;> rfl, ?_⟩
                        exact (hO10x.kept hk12 (fun k h h' => by omega)).mono (fun k hk h => by omega)
                      · have HF := Lib.hid (show printP a = (zeroR, 2) by rw [HPP.out, if_neg (fun h => hq h.2.symm)])
                        rw [decide_eq_false hq] at HSm
                        clear hq HPP
                        go_wp2_with (first
                          | ((with_reducible refine at_ 97 rfl ?_); go_must (refine step_build rfl 55 _ rfl [] rfl _ build_req0 ?_))
                          | ((with_reducible refine at_store 55 (.tmp 2) (.tmp 97) rfl ?_); go_must (refine step_store rfl _ _ _ rfl (w.heap.size + 1) 0 [.string ⟨#[]⟩, .string ⟨#[]⟩, .string ⟨#[]⟩, .slice none 0 0] _ _ rfl rfl hb1z (by simp) info_req (by simp [Value.oneCell']) ?_); intro w12 hb12 hk12 hs12)
                          | (go_at_call 29; go_loud (refine Rets.use (HSm.out w10 _ _ _ _ hR10a hR10q) ?_); rintro _ w11 ⟨rfl, hk11⟩; have hb1z := hk11.heap hb1z (fun h => h); have hbx10 := hk11.heap hbx10 (fun h => h); have K10 := K10.trans hk11 (fun _ _ h => h.elim); have hO10x := hO10x.kept hk11 (fun _ _ h => h))
                          | ((with_reducible refine at_ 93 rfl ?_); go_must (refine step_load rfl _ _ rfl w8.heap.size 0 (askC q (.slice A8 q.body.length c8)) _ _ (0, 0) _ rfl hb10 rfl Try.underlying58 rfl (info_askC _ _) ?_))
                          | ((with_reducible refine at_ 92 rfl ?_); go_must (refine step_load rfl _ _ rfl w.heap.size 0 (askC a (.slice A a.body.length c)) _ _ (0, 0) _ rfl h010 rfl Try.underlying58 rfl (info_askC _ _) ?_))
                          | ((with_reducible refine at_store 58 (.tmp 7) (.tmp 87) rfl ?_); go_must (refine step_store rfl _ _ _ rfl w8.heap.size 0 (askC q (.slice A8 q.body.length c8)) _ _ rfl rfl hb9 (by simp [askC_len]) (info_askC _ _) (by simp [askC, Value.oneCell']) ?_); intro w10 hb10 hk10 hs10; rw [put_whole (by rfl)] at hb10; have K910 := hk9.trans hk10 (fun k hk h => by omega); have K710 := hk8.trans K910 (fun _ _ h => h); have K10 := KX.trans K710 (fun _ _ h => h.elim); have hbx10 := K710.heap hbX (fun h => h); have hO10x := hOX.kept K710 (fun _ _ h => h); have hb1z := K10.heap H1.out (fun h => by omega); have h010 := K10.heap H0.out (fun h => by omega); have hR10q := hO8.rd.kept K910 (fun _ _ h => h); have hR10a := HR.out.kept (HK.out.trans K10 (fun k hk h => by omega)) (fun _ _ h => h))
                          | ((with_reducible refine at_ 7 rfl ?_); go_must (refine step_alloc rfl _ rfl _ (askC zeroA (.slice none 0 0)) row_ask rfl ?_); intro w9 hb9 hk9 hs9)
                          | (go_at_call 28; go_loud (rw [← HXV.out]); go_loud (refine Rets.use (HXp.out _ _ _ hOX.rd) ?_); rintro _ w8 ⟨hk8, u8, rfl, hO8⟩; obtain ⟨A8, c8, rfl, _⟩ := hO8.slice)
                          | ((with_reducible refine at_ 85 rfl ?_); go_must (refine step_load rfl _ _ rfl (w.heap.size + 1 + 1) 0 [.string sGET, .string ((⟨#[47, 117, 115, 97, 103, 101]⟩ : ByteArray)), .string ⟨#[]⟩, .slice none 0 0] _ _ (0, 0) _ rfl hbX rfl Try.underlying55 rfl info_req ?_))
                          | ((with_reducible refine at_store 9 (.tmp 80) (.const (.string ⟨#[47, 117, 115, 97, 103, 101]⟩)) rfl ?_); go_must (refine step_store1 rfl _ _ _ rfl (w.heap.size + 1 + 1) 1 (.string ((⟨#[47, 117, 115, 97, 103, 101]⟩ : ByteArray))) _ _ rfl rfl rfl HX0.out (by simp) info_str ?_); intro w7 hb7 hk7 hs7; have KX := hk7; have hbX : w7.heap[w.heap.size + 1 + 1]? = some (.cells [.string sGET, .string ((⟨#[47, 117, 115, 97, 103, 101]⟩ : ByteArray)), .string ⟨#[]⟩, .slice none 0 0].toArray 55 (0, 0)) := hb7; have hOX : OwnRow w7 (fun k => w.heap.size + 1 + 1 < k) 5 1 (.slice none 0 0) X.body.length (Disk.bytes8 X.body) := (by rw [hxb]; exact OwnRow.nil _ _ _ _)))
                        rw [put_whole (by rfl)] at hb12
                        refine bodyPost_ret (ret_cell_tmp rfl [.string ⟨#[]⟩, .string ⟨#[]⟩, .string ⟨#[]⟩, .slice none 0 0] _ rfl hb12 Try.underlying55 rfl info_req) rfl ?_
                        rw [HF.out]
                        exact ⟨(HK.out.trans K10 (fun k hk h => by omega)).trans hk12 (fun _ hk h => by omega), _, rfl, OwnRow.nil _ _ _ _⟩
                    · have HF := Lib.hid (show printP a = (zeroR, 2) by rw [HPP.out, if_neg (fun h => hc h.1)])
                      have hcb : (code != 200) = true := by simpa using hc
                      clear hc HPP
                      go_wp2_with (first
                        | ((with_reducible refine at_ 97 rfl ?_); go_must (refine step_build rfl 55 _ rfl [] rfl _ build_req0 ?_))
                        | ((with_reducible refine at_store 55 (.tmp 2) (.tmp 97) rfl ?_); go_must (refine step_store rfl _ _ _ rfl (w.heap.size + 1) 0 [.string ⟨#[]⟩, .string ⟨#[]⟩, .string ⟨#[]⟩, .slice none 0 0] _ _ rfl rfl hb1z (by simp) info_req (by simp [Value.oneCell']) ?_); intro w12 hb12 hk12 hs12)
                        | ((with_reducible refine at_store 58 (.tmp 7) (.tmp 87) rfl ?_); go_must (refine step_store rfl _ _ _ rfl w8.heap.size 0 (askC q (.slice A8 q.body.length c8)) _ _ rfl rfl hb9 (by simp [askC_len]) (info_askC _ _) (by simp [askC, Value.oneCell']) ?_); intro w10 hb10 hk10 hs10; rw [put_whole (by rfl)] at hb10; have K910 := hk9.trans hk10 (fun k hk h => by omega); have K710 := hk8.trans K910 (fun _ _ h => h); have K10 := KX.trans K710 (fun _ _ h => h.elim); have hbx10 := K710.heap hbX (fun h => h); have hO10x := hOX.kept K710 (fun _ _ h => h); have hb1z := K10.heap H1.out (fun h => by omega); have h010 := K10.heap H0.out (fun h => by omega); have hR10q := hO8.rd.kept K910 (fun _ _ h => h); have hR10a := HR.out.kept (HK.out.trans K10 (fun k hk h => by omega)) (fun _ _ h => h))
                        | ((with_reducible refine at_ 7 rfl ?_); go_must (refine step_alloc rfl _ rfl _ (askC zeroA (.slice none 0 0)) row_ask rfl ?_); intro w9 hb9 hk9 hs9)
                        | (go_at_call 28; go_loud (rw [← HXV.out]); go_loud (refine Rets.use (HXp.out _ _ _ hOX.rd) ?_); rintro _ w8 ⟨hk8, u8, rfl, hO8⟩; obtain ⟨A8, c8, rfl, _⟩ := hO8.slice)
                        | ((with_reducible refine at_ 85 rfl ?_); go_must (refine step_load rfl _ _ rfl (w.heap.size + 1 + 1) 0 [.string sGET, .string ((⟨#[47, 117, 115, 97, 103, 101]⟩ : ByteArray)), .string ⟨#[]⟩, .slice none 0 0] _ _ (0, 0) _ rfl hbX rfl Try.underlying55 rfl info_req ?_))
                        | ((with_reducible refine at_store 9 (.tmp 80) (.const (.string ⟨#[47, 117, 115, 97, 103, 101]⟩)) rfl ?_); go_must (refine step_store1 rfl _ _ _ rfl (w.heap.size + 1 + 1) 1 (.string ((⟨#[47, 117, 115, 97, 103, 101]⟩ : ByteArray))) _ _ rfl rfl rfl HX0.out (by simp) info_str ?_); intro w7 hb7 hk7 hs7; have KX := hk7; have hbX : w7.heap[w.heap.size + 1 + 1]? = some (.cells [.string sGET, .string ((⟨#[47, 117, 115, 97, 103, 101]⟩ : ByteArray)), .string ⟨#[]⟩, .slice none 0 0].toArray 55 (0, 0)) := hb7; have hOX : OwnRow w7 (fun k => w.heap.size + 1 + 1 < k) 5 1 (.slice none 0 0) X.body.length (Disk.bytes8 X.body) := (by rw [hxb]; exact OwnRow.nil _ _ _ _)))
                      rw [put_whole (by rfl)] at hb12
                      refine bodyPost_ret (ret_cell_tmp rfl [.string ⟨#[]⟩, .string ⟨#[]⟩, .string ⟨#[]⟩, .slice none 0 0] _ rfl hb12 Try.underlying55 rfl info_req) rfl ?_
                      rw [HF.out]
                      exact ⟨(HK.out.trans K10 (fun k hk h => by omega)).trans hk12 (fun _ hk h => by omega), _, rfl, OwnRow.nil _ _ _ _⟩
                  · by_cases hk10 : a.kind = 10
                    · rw [hk10] at a0
                      have HGk := Lib.hid (show formK a.kind = some ⟨⟨#[104, 101, 97, 100]⟩, 0, false, sGET, 10⟩ by rw [hk10]; exact formK_10)
                      have hxt : str (reqG ⟨⟨#[104, 101, 97, 100]⟩, 0, false, sGET, 10⟩ a).target = (⟨#[47, 104, 101, 97, 100]⟩ : ByteArray) := by rw [tgt_10]
                      have hxm : str (reqG ⟨⟨#[104, 101, 97, 100]⟩, 0, false, sGET, 10⟩ a).method = sGET := (str_of _).symm
                      have hxb : (reqG ⟨⟨#[104, 101, 97, 100]⟩, 0, false, sGET, 10⟩ a).body = [] := by unfold reqG; simp only; first | rfl | (rw [show (sGET.toList == [80, 85, 84]) = false by rw [ByteArray.toList_eq]; rfl]; rfl)
                      clear hk1
                      clear hk2
                      clear hk3
                      clear hk4
                      clear hk5
                      clear hk6
                      clear hk7
                      clear hk8
                      clear hk9
                      clear hk10
                      have hpk := print_pack ha hl1 hl2 hl3 HGk.out
                      have HPP := Lib.hid (show printP a = if (parseP (reqG ⟨⟨#[104, 101, 97, 100]⟩, 0, false, sGET, 10⟩ a)).2 = 200 ∧ (parseP (reqG ⟨⟨#[104, 101, 97, 100]⟩, 0, false, sGET, 10⟩ a)).1 = a then (reqG ⟨⟨#[104, 101, 97, 100]⟩, 0, false, sGET, 10⟩ a, 0) else (zeroR, 2) by unfold printP; rw [HGk.out])
                      have HXV := Lib.hid (fun u => show reqV (reqG ⟨⟨#[104, 101, 97, 100]⟩, 0, false, sGET, 10⟩ a) u = .agg #[.string sGET, .string ((⟨#[47, 104, 101, 97, 100]⟩ : ByteArray)), .string ⟨#[]⟩, u] by unfold reqV; rw [hxm, hxt]; rfl)
                      have HXp := Lib.hid (fun (w : World) (ok : Nat → Prop) u h => rparse23_c (w := w) (ok := ok) (reqG ⟨⟨#[104, 101, 97, 100]⟩, 0, false, sGET, 10⟩ a) hpk.1 (by have := hpk.2.1; omega) (by have := hpk.2.2; omega) u h)
                      obtain ⟨hqo, hql⟩ := parseP_ok hpk.1
                      have hql : (parseP (reqG ⟨⟨#[104, 101, 97, 100]⟩, 0, false, sGET, 10⟩ a)).1.body.length ≤ 4200 := by have := hpk.2.2; omega
                      clear hxt hxm hpk HGk
                      generalize reqG ⟨⟨#[104, 101, 97, 100]⟩, 0, false, sGET, 10⟩ a = X at *
                      generalize parseP X = pr at *
                      obtain ⟨q, code⟩ := pr
                      simp only at HPP hqo hql
                      have HSm := Lib.hid (fun (w : World) (ok ok2 : Nat → Prop) v u h1 h2 => same23_c (w := w) (ok := ok) (ok2 := ok2) a q ha hqo v u h1 h2 (by omega))
                      by_cases hc : code = 200
                      · subst hc
                        have hcb : ((200 : Int) != 200) = false := rfl
                        by_cases hq : a = q
                        · have HF := Lib.hid (show printP a = (X, 0) by rw [HPP.out, if_pos ⟨rfl, hq.symm⟩])
                          rw [decide_eq_true hq] at HSm
                          clear hq HPP
                          go_wp2_with (first
                            | ((with_reducible refine at_ 98 rfl ?_); go_must (refine step_load rfl _ _ rfl (w.heap.size + 1 + 1) 0 [.string sGET, .string ((⟨#[47, 104, 101, 97, 100]⟩ : ByteArray)), .string ⟨#[]⟩, .slice none 0 0] _ _ (0, 0) _ rfl hbx10 rfl Try.underlying55 rfl info_req ?_))
                            | ((with_reducible refine at_store 55 (.tmp 2) (.tmp 98) rfl ?_); go_must (refine step_store rfl _ _ _ rfl (w.heap.size + 1) 0 [.string sGET, .string ((⟨#[47, 104, 101, 97, 100]⟩ : ByteArray)), .string ⟨#[]⟩, .slice none 0 0] _ _ rfl rfl hb1z (by simp) info_req (by simp [Value.oneCell']) ?_); intro w12 hb12 hk12 hs12)
                            | (go_at_call 29; go_loud (refine Rets.use (HSm.out w10 _ _ _ _ hR10a hR10q) ?_); rintro _ w11 ⟨rfl, hk11⟩; have hb1z := hk11.heap hb1z (fun h => h); have hbx10 := hk11.heap hbx10 (fun h => h); have K10 := K10.trans hk11 (fun _ _ h => h.elim); have hO10x := hO10x.kept hk11 (fun _ _ h => h))
                            | ((with_reducible refine at_ 93 rfl ?_); go_must (refine step_load rfl _ _ rfl w8.heap.size 0 (askC q (.slice A8 q.body.length c8)) _ _ (0, 0) _ rfl hb10 rfl Try.underlying58 rfl (info_askC _ _) ?_))
                            | ((with_reducible refine at_ 92 rfl ?_); go_must (refine step_load rfl _ _ rfl w.heap.size 0 (askC a (.slice A a.body.length c)) _ _ (0, 0) _ rfl h010 rfl Try.underlying58 rfl (info_askC _ _) ?_))
                            | ((with_reducible refine at_store 58 (.tmp 7) (.tmp 87) rfl ?_); go_must (refine step_store rfl _ _ _ rfl w8.heap.size 0 (askC q (.slice A8 q.body.length c8)) _ _ rfl rfl hb9 (by simp [askC_len]) (info_askC _ _) (by simp [askC, Value.oneCell']) ?_); intro w10 hb10 hk10 hs10; rw [put_whole (by rfl)] at hb10; have K910 := hk9.trans hk10 (fun k hk h => by omega); have K710 := hk8.trans K910 (fun _ _ h => h); have K10 := KX.trans K710 (fun _ _ h => h.elim); have hbx10 := K710.heap hbX (fun h => h); have hO10x := hOX.kept K710 (fun _ _ h => h); have hb1z := K10.heap H1.out (fun h => by omega); have h010 := K10.heap H0.out (fun h => by omega); have hR10q := hO8.rd.kept K910 (fun _ _ h => h); have hR10a := HR.out.kept (HK.out.trans K10 (fun k hk h => by omega)) (fun _ _ h => h))
                            | ((with_reducible refine at_ 7 rfl ?_); go_must (refine step_alloc rfl _ rfl _ (askC zeroA (.slice none 0 0)) row_ask rfl ?_); intro w9 hb9 hk9 hs9)
                            | (go_at_call 28; go_loud (rw [← HXV.out]); go_loud (refine Rets.use (HXp.out _ _ _ hOX.rd) ?_); rintro _ w8 ⟨hk8, u8, rfl, hO8⟩; obtain ⟨A8, c8, rfl, _⟩ := hO8.slice)
                            | ((with_reducible refine at_ 85 rfl ?_); go_must (refine step_load rfl _ _ rfl (w.heap.size + 1 + 1) 0 [.string sGET, .string ((⟨#[47, 104, 101, 97, 100]⟩ : ByteArray)), .string ⟨#[]⟩, .slice none 0 0] _ _ (0, 0) _ rfl hbX rfl Try.underlying55 rfl info_req ?_))
                            | ((with_reducible refine at_store 9 (.tmp 83) (.const (.string ⟨#[47, 104, 101, 97, 100]⟩)) rfl ?_); go_must (refine step_store1 rfl _ _ _ rfl (w.heap.size + 1 + 1) 1 (.string ((⟨#[47, 104, 101, 97, 100]⟩ : ByteArray))) _ _ rfl rfl rfl HX0.out (by simp) info_str ?_); intro w7 hb7 hk7 hs7; have KX := hk7; have hbX : w7.heap[w.heap.size + 1 + 1]? = some (.cells [.string sGET, .string ((⟨#[47, 104, 101, 97, 100]⟩ : ByteArray)), .string ⟨#[]⟩, .slice none 0 0].toArray 55 (0, 0)) := hb7; have hOX : OwnRow w7 (fun k => w.heap.size + 1 + 1 < k) 5 1 (.slice none 0 0) X.body.length (Disk.bytes8 X.body) := (by rw [hxb]; exact OwnRow.nil _ _ _ _)))
                          rw [put_whole (by rfl)] at hb12
                          refine bodyPost_ret (ret_cell_tmp rfl [.string sGET, .string ((⟨#[47, 104, 101, 97, 100]⟩ : ByteArray)), .string ⟨#[]⟩, .slice none 0 0] _ rfl hb12 Try.underlying55 rfl info_req) rfl ?_
                          rw [HF.out]
                          refine ⟨(HK.out.trans K10 (fun k hk h => by omega)).trans hk12 (fun _ hk h => by omega), .slice none 0 0, by rw [HXV.out] <;> rfl, ?_⟩
                          exact (hO10x.kept hk12 (fun k h h' => by omega)).mono (fun k hk h => by omega)
                        · have HF := Lib.hid (show printP a = (zeroR, 2) by rw [HPP.out, if_neg (fun h => hq h.2.symm)])
                          rw [decide_eq_false hq] at HSm
                          clear hq HPP
                          go_wp2_with (first
                            | ((with_reducible refine at_ 97 rfl ?_); go_must (refine step_build rfl 55 _ rfl [] rfl _ build_req0 ?_))
                            | ((with_reducible refine at_store 55 (.tmp 2) (.tmp 97) rfl ?_); go_must (refine step_store rfl _ _ _ rfl (w.heap.size + 1) 0 [.string ⟨#[]⟩, .string ⟨#[]⟩, .string ⟨#[]⟩, .slice none 0 0] _ _ rfl rfl hb1z (by simp) info_req (by simp [Value.oneCell']) ?_); intro w12 hb12 hk12 hs12)
                            | (go_at_call 29; go_loud (refine Rets.use (HSm.out w10 _ _ _ _ hR10a hR10q) ?_); rintro _ w11 ⟨rfl, hk11⟩; have hb1z := hk11.heap hb1z (fun h => h); have hbx10 := hk11.heap hbx10 (fun h => h); have K10 := K10.trans hk11 (fun _ _ h => h.elim); have hO10x := hO10x.kept hk11 (fun _ _ h => h))
                            | ((with_reducible refine at_ 93 rfl ?_); go_must (refine step_load rfl _ _ rfl w8.heap.size 0 (askC q (.slice A8 q.body.length c8)) _ _ (0, 0) _ rfl hb10 rfl Try.underlying58 rfl (info_askC _ _) ?_))
                            | ((with_reducible refine at_ 92 rfl ?_); go_must (refine step_load rfl _ _ rfl w.heap.size 0 (askC a (.slice A a.body.length c)) _ _ (0, 0) _ rfl h010 rfl Try.underlying58 rfl (info_askC _ _) ?_))
                            | ((with_reducible refine at_store 58 (.tmp 7) (.tmp 87) rfl ?_); go_must (refine step_store rfl _ _ _ rfl w8.heap.size 0 (askC q (.slice A8 q.body.length c8)) _ _ rfl rfl hb9 (by simp [askC_len]) (info_askC _ _) (by simp [askC, Value.oneCell']) ?_); intro w10 hb10 hk10 hs10; rw [put_whole (by rfl)] at hb10; have K910 := hk9.trans hk10 (fun k hk h => by omega); have K710 := hk8.trans K910 (fun _ _ h => h); have K10 := KX.trans K710 (fun _ _ h => h.elim); have hbx10 := K710.heap hbX (fun h => h); have hO10x := hOX.kept K710 (fun _ _ h => h); have hb1z := K10.heap H1.out (fun h => by omega); have h010 := K10.heap H0.out (fun h => by omega); have hR10q := hO8.rd.kept K910 (fun _ _ h => h); have hR10a := HR.out.kept (HK.out.trans K10 (fun k hk h => by omega)) (fun _ _ h => h))
                            | ((with_reducible refine at_ 7 rfl ?_); go_must (refine step_alloc rfl _ rfl _ (askC zeroA (.slice none 0 0)) row_ask rfl ?_); intro w9 hb9 hk9 hs9)
                            | (go_at_call 28; go_loud (rw [← HXV.out]); go_loud (refine Rets.use (HXp.out _ _ _ hOX.rd) ?_); rintro _ w8 ⟨hk8, u8, rfl, hO8⟩; obtain ⟨A8, c8, rfl, _⟩ := hO8.slice)
                            | ((with_reducible refine at_ 85 rfl ?_); go_must (refine step_load rfl _ _ rfl (w.heap.size + 1 + 1) 0 [.string sGET, .string ((⟨#[47, 104, 101, 97, 100]⟩ : ByteArray)), .string ⟨#[]⟩, .slice none 0 0] _ _ (0, 0) _ rfl hbX rfl Try.underlying55 rfl info_req ?_))
                            | ((with_reducible refine at_store 9 (.tmp 83) (.const (.string ⟨#[47, 104, 101, 97, 100]⟩)) rfl ?_); go_must (refine step_store1 rfl _ _ _ rfl (w.heap.size + 1 + 1) 1 (.string ((⟨#[47, 104, 101, 97, 100]⟩ : ByteArray))) _ _ rfl rfl rfl HX0.out (by simp) info_str ?_); intro w7 hb7 hk7 hs7; have KX := hk7; have hbX : w7.heap[w.heap.size + 1 + 1]? = some (.cells [.string sGET, .string ((⟨#[47, 104, 101, 97, 100]⟩ : ByteArray)), .string ⟨#[]⟩, .slice none 0 0].toArray 55 (0, 0)) := hb7; have hOX : OwnRow w7 (fun k => w.heap.size + 1 + 1 < k) 5 1 (.slice none 0 0) X.body.length (Disk.bytes8 X.body) := (by rw [hxb]; exact OwnRow.nil _ _ _ _)))
                          rw [put_whole (by rfl)] at hb12
                          refine bodyPost_ret (ret_cell_tmp rfl [.string ⟨#[]⟩, .string ⟨#[]⟩, .string ⟨#[]⟩, .slice none 0 0] _ rfl hb12 Try.underlying55 rfl info_req) rfl ?_
                          rw [HF.out]
                          exact ⟨(HK.out.trans K10 (fun k hk h => by omega)).trans hk12 (fun _ hk h => by omega), _, rfl, OwnRow.nil _ _ _ _⟩
                      · have HF := Lib.hid (show printP a = (zeroR, 2) by rw [HPP.out, if_neg (fun h => hc h.1)])
                        have hcb : (code != 200) = true := by simpa using hc
                        clear hc HPP
                        go_wp2_with (first
                          | ((with_reducible refine at_ 97 rfl ?_); go_must (refine step_build rfl 55 _ rfl [] rfl _ build_req0 ?_))
                          | ((with_reducible refine at_store 55 (.tmp 2) (.tmp 97) rfl ?_); go_must (refine step_store rfl _ _ _ rfl (w.heap.size + 1) 0 [.string ⟨#[]⟩, .string ⟨#[]⟩, .string ⟨#[]⟩, .slice none 0 0] _ _ rfl rfl hb1z (by simp) info_req (by simp [Value.oneCell']) ?_); intro w12 hb12 hk12 hs12)
                          | ((with_reducible refine at_store 58 (.tmp 7) (.tmp 87) rfl ?_); go_must (refine step_store rfl _ _ _ rfl w8.heap.size 0 (askC q (.slice A8 q.body.length c8)) _ _ rfl rfl hb9 (by simp [askC_len]) (info_askC _ _) (by simp [askC, Value.oneCell']) ?_); intro w10 hb10 hk10 hs10; rw [put_whole (by rfl)] at hb10; have K910 := hk9.trans hk10 (fun k hk h => by omega); have K710 := hk8.trans K910 (fun _ _ h => h); have K10 := KX.trans K710 (fun _ _ h => h.elim); have hbx10 := K710.heap hbX (fun h => h); have hO10x := hOX.kept K710 (fun _ _ h => h); have hb1z := K10.heap H1.out (fun h => by omega); have h010 := K10.heap H0.out (fun h => by omega); have hR10q := hO8.rd.kept K910 (fun _ _ h => h); have hR10a := HR.out.kept (HK.out.trans K10 (fun k hk h => by omega)) (fun _ _ h => h))
                          | ((with_reducible refine at_ 7 rfl ?_); go_must (refine step_alloc rfl _ rfl _ (askC zeroA (.slice none 0 0)) row_ask rfl ?_); intro w9 hb9 hk9 hs9)
                          | (go_at_call 28; go_loud (rw [← HXV.out]); go_loud (refine Rets.use (HXp.out _ _ _ hOX.rd) ?_); rintro _ w8 ⟨hk8, u8, rfl, hO8⟩; obtain ⟨A8, c8, rfl, _⟩ := hO8.slice)
                          | ((with_reducible refine at_ 85 rfl ?_); go_must (refine step_load rfl _ _ rfl (w.heap.size + 1 + 1) 0 [.string sGET, .string ((⟨#[47, 104, 101, 97, 100]⟩ : ByteArray)), .string ⟨#[]⟩, .slice none 0 0] _ _ (0, 0) _ rfl hbX rfl Try.underlying55 rfl info_req ?_))
                          | ((with_reducible refine at_store 9 (.tmp 83) (.const (.string ⟨#[47, 104, 101, 97, 100]⟩)) rfl ?_); go_must (refine step_store1 rfl _ _ _ rfl (w.heap.size + 1 + 1) 1 (.string ((⟨#[47, 104, 101, 97, 100]⟩ : ByteArray))) _ _ rfl rfl rfl HX0.out (by simp) info_str ?_); intro w7 hb7 hk7 hs7; have KX := hk7; have hbX : w7.heap[w.heap.size + 1 + 1]? = some (.cells [.string sGET, .string ((⟨#[47, 104, 101, 97, 100]⟩ : ByteArray)), .string ⟨#[]⟩, .slice none 0 0].toArray 55 (0, 0)) := hb7; have hOX : OwnRow w7 (fun k => w.heap.size + 1 + 1 < k) 5 1 (.slice none 0 0) X.body.length (Disk.bytes8 X.body) := (by rw [hxb]; exact OwnRow.nil _ _ _ _)))
                        rw [put_whole (by rfl)] at hb12
                        refine bodyPost_ret (ret_cell_tmp rfl [.string ⟨#[]⟩, .string ⟨#[]⟩, .string ⟨#[]⟩, .slice none 0 0] _ rfl hb12 Try.underlying55 rfl info_req) rfl ?_
                        rw [HF.out]
                        exact ⟨(HK.out.trans K10 (fun k hk h => by omega)).trans hk12 (fun _ hk h => by omega), _, rfl, OwnRow.nil _ _ _ _⟩
                    · have HF := Lib.hid (show printP a = (zeroR, 2) by unfold printP; rw [formK_no (by omega)])
                      have b1 : (a.kind == 1) = false := by simpa using hk1
                      have b2 : (a.kind == 2) = false := by simpa using hk2
                      have b3 : (a.kind == 3) = false := by simpa using hk3
                      have b4 : (a.kind == 4) = false := by simpa using hk4
                      have b5 : (a.kind == 5) = false := by simpa using hk5
                      have b6 : (a.kind == 6) = false := by simpa using hk6
                      have b7 : (a.kind == 7) = false := by simpa using hk7
                      have b8 : (a.kind == 8) = false := by simpa using hk8
                      have b9 : (a.kind == 9) = false := by simpa using hk9
                      have b10 : (a.kind == 10) = false := by simpa using hk10
                      clear hk1 hk2 hk3 hk4 hk5 hk6 hk7 hk8 hk9 hk10
                      have HXp := Lib.hid (fun (w : World) => rparse23_c (w := w) (ok := fun _ => True) ⟨[71, 69, 84], [], [], []⟩ ⟨isB_dec (by decide), isB_dec (by decide), isB_dec (by decide), isB_dec (by decide)⟩ (by decide) (by decide) (.slice none 0 0) (Rd.nil _ _))
                      rw [liveN] at HXp
                      go_wp2_with (first
                        | ((with_reducible refine at_ 97 rfl ?_); go_must (refine step_build rfl 55 _ rfl [] rfl _ build_req0 ?_))
                        | ((with_reducible refine at_store 55 (.tmp 2) (.tmp 97) rfl ?_); go_must (refine step_store rfl _ _ _ rfl (w.heap.size + 1) 0 [.string ⟨#[]⟩, .string ⟨#[]⟩, .string ⟨#[]⟩, .slice none 0 0] _ _ rfl rfl (K10.heap H1.out (fun h => h)) (by simp) info_req (by simp [Value.oneCell']) ?_); intro w12 hb12 hk12 hs12)
                        | ((with_reducible refine at_store 58 (.tmp 7) (.tmp 87) rfl ?_); go_must (refine step_store rfl _ _ _ rfl w8.heap.size 0 (askC zeroA (.slice A8 0 c8)) _ _ rfl rfl hb9 (by simp [askC_len]) (info_askC _ _) (by simp [askC, Value.oneCell']) ?_); intro w10 hb10 hk10 hs10; have K10 := hk8.trans (hk9.trans hk10 (fun k hk h => by omega)) (fun _ _ h => h))
                        | ((with_reducible refine at_ 7 rfl ?_); go_must (refine step_alloc rfl _ rfl _ (askC zeroA (.slice none 0 0)) row_ask rfl ?_); intro w9 hb9 hk9 hs9)
                        | (go_at_call 28; go_loud (refine Rets.use (HXp.out _) ?_); rintro _ w8 ⟨hk8, u8, rfl, hO8⟩; obtain ⟨A8, c8, rfl, _⟩ := hO8.slice)
                        | ((with_reducible refine at_ 85 rfl ?_); go_must (refine step_load rfl _ _ rfl (w.heap.size + 1 + 1) 0 [.string sGET, .string ⟨#[]⟩, .string ⟨#[]⟩, .slice none 0 0] _ _ (0, 0) _ rfl HX0.out rfl Try.underlying55 rfl info_req ?_)))
                      rw [put_whole (by rfl)] at hb12
                      refine bodyPost_ret (ret_cell_tmp rfl [.string ⟨#[]⟩, .string ⟨#[]⟩, .string ⟨#[]⟩, .slice none 0 0] _ rfl hb12 Try.underlying55 rfl info_req) rfl ?_
                      rw [HF.out]
                      exact ⟨(HK.out.trans K10 (fun k hk h => h)).trans hk12 (fun _ hk h => by omega), _, rfl, OwnRow.nil _ _ _ _⟩
end Go.Proofs.Ytomnkdjlljobeaa
