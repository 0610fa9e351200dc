/-
  ChunkRoom, ChunkBack: the walks.
-/
import Derived.Test.YtomnkdjlljobeaaChunkP
import Derived.Test.YtomnkdjlljobeaaLReads
namespace Go.Proofs.Ytomnkdjlljobeaa
open Go.RowKit Go.Canon Go.Mem Go.Args
set_option linter.unusedVariables false
set_option linter.unusedSimpArgs false
theorem Byte.app {a b : List Int} (ha : Byte a) (hb : Byte b) : Byte (a ++ b) := fun x hx => (List.mem_append.1 hx).elim (ha x) (hb x)
theorem pr_byte (size : Nat) : ∀ (k : Nat) (b : List Int), b.length ≤ k → Byte b → Byte (Chunk.pr size b)
  | 0, b, h, _ => by
    obtain rfl := List.eq_nil_of_length_eq_zero (Nat.le_zero.1 h)
    rw [Chunk.pr_nil]; exact end_byte
  | k + 1, b, h, hB => by
    by_cases hs : 0 < size
    · by_cases hb : 0 < b.length
      · rw [Chunk.pr_cons hs hb]
        exact ((((hex_byte _).app crlf_byte).app (hB.take _)).app crlf_byte).app (pr_byte size k _ (by rw [List.length_drop]; omega) (hB.drop _))
      · obtain rfl := List.eq_nil_of_length_eq_zero (show b.length = 0 by omega)
        rw [Chunk.pr_nil]; exact end_byte
    · rw [Chunk.pr, dif_pos (.inl (by omega))]; exact end_byte
theorem back_law {sz : Nat} (hs : 0 < sz) (l behind : List Int) {mo : Int} (m0 : 0 ≤ mo) (m1 : mo ≤ 2048) : Chunk.whole (Chunk.pr sz l ++ behind) mo = if (l.length : Int) ≤ mo then (l, ((Chunk.pr sz l).length : Int), 0) else ([], 0, 5) := by
  unfold Chunk.whole
  rw [if_neg (by omega), Chunk.go_pr hs l.length l [] behind 0 (Nat.le_refl _) (by simpa using m0)]
  simp
theorem room_law {sz : Nat} (hs : 0 < sz) (l : List Int) {mo : Int} (m0 : 0 ≤ mo) (m1 : mo ≤ 2048) : Chunk.whole (Chunk.pr sz l) mo = if (l.length : Int) ≤ mo then (l, ((Chunk.pr sz l).length : Int), 0) else ([], 0, 5) := by
  have := back_law hs l [] m0 m1
  rwa [List.append_nil] at this
theorem short_law {sz : Nat} (hs : 0 < sz) (l : List Int) (hl : l.length ≤ 2048) {j : Nat} (hj : j < (Chunk.pr sz l).length) : Chunk.whole ((Chunk.pr sz l).take j) 2048 = ([], 0, 3) := by
  have h := back_law hs l [] (mo := 2048) (by decide) (by decide)
  rw [if_pos (by omega), List.append_nil] at h
  unfold Chunk.whole at h ⊢
  rw [if_neg (by decide)] at h ⊢
  refine Chunk.go_short ((Chunk.pr sz l).take j) _ ((Chunk.pr sz l).drop j) l 0 ((Chunk.pr sz l).length) ?_ (by rw [List.length_take]; omega)
  rw [List.take_append_drop, h]; simp
theorem pr_five (sz : Nat) (l : List Int) : 1 ≤ (Chunk.pr sz l).length := by
  rw [Chunk.pr]
  split
  · simp
  · simp only [List.length_append, List.length_cons, List.length_nil]; omega
theorem least_to (n lo hi : Int) (h : lo ≤ hi) : lo ≤ least n lo hi ∧ least n lo hi ≤ hi := by unfold least; split <;> (try split) <;> omega
set_option maxHeartbeats 3200000 in
set_option maxRecDepth 100000 in
theorem room_in (W : World) (v : Value) (l0 : List Int) (size most : Int) (hr : Rd W (fun k => k < W.heap.size) v l0.length (Disk.bytes8 l0)) (hB : Byte l0) : Calls Try.prog 8 #[v, .int .i64 size, .int .i64 most] W (Rets (Yes W)) := by
  have HC := Lib.hid (cut_c v l0 hr 2048)
  have hl : (l0.take 2048).length ≤ 2048 := by rw [List.length_take]; omega
  have HB := Lib.hid (hB.take 2048)
  clear hr hB
  generalize l0.take 2048 = l at *
  obtain ⟨s1, s2⟩ := least_to size 1 2048 (by decide)
  obtain ⟨sz, hsz⟩ : ∃ sz : Nat, least size 1 2048 = sz := ⟨(least size 1 2048).toNat, by omega⟩
  obtain ⟨mo0, mo1⟩ := least_to most 0 2048 (by decide)
  obtain ⟨mo, hmo⟩ : ∃ mo, least most 0 2048 = mo := ⟨_, rfl⟩
  rw [hsz] at s1 s2
  rw [hmo] at mo0 mo1
  have HL1 := Lib.hid hsz
  have HL2 := Lib.hid hmo
  have hs0 : 0 < sz := by omega
  have HP := Lib.hid (show printed l sz = (Chunk.pr sz l, 0) by unfold printed; rw [if_neg (by omega), if_neg (by omega)]; simp)
  have HW := Lib.hid (room_law hs0 l mo0 mo1)
  have hpl : (Chunk.pr sz l).length ≤ 999999 := by have := pr_len sz l.length l (Nat.le_refl _) hl; omega
  have HPB := Lib.hid (pr_byte sz l.length l (Nat.le_refl _) HB.out)
  have HPr := Lib.hid (fun (w : World) (ok : Nat → Prop) (v : Value) (h : Rd w ok v l.length (Disk.bytes8 l)) (hok : ∀ j, ok j → j < w.heap.size) => print12_c v l sz h hok)
  rw [HP.out] at HPr
  have HWh := Lib.hid (fun (w : World) (ok : Nat → Prop) (v : Value) (h : Rd w ok v (Chunk.pr sz l).length (Disk.bytes8 (Chunk.pr sz l))) => whole12_c v _ mo h hpl HPB.out)
  rw [HW.out] at HWh
  generalize Chunk.pr sz l = t at *
  clear hsz s1 s2 HW HP hmo
  by_cases hbig : (l.length : Int) ≤ mo
  · have HWh := Lib.hid (show ∀ (w : World) (ok : Nat → Prop) (v : Value), Rd w ok v t.length (Disk.bytes8 t) → Calls Try.prog 14 #[v, .int .i64 mo] w (Rets (ThreeIs w (l, (t.length : Int), 0))) by have := HWh.out; rw [if_pos hbig] at this; exact this)
    go_enter Try.func8, Try.ntmps8
    go_wp2_with (first
      | (go_at_call 17; refine Rets.use (lives12_c _) ?_; rintro v w7 ⟨rfl, hk7⟩)
      | (go_at_call 16; refine Rets.use (same_self hO3.rd ((hC.kept hk2 (fun _ _ h => h)).kept hk3 (fun _ _ h => h)) (by omega)) ?_; rintro v w6 ⟨rfl, hk6⟩)
      | (go_at_call 14; refine Rets.use (HWh.out w2 _ u2 hO2.1.rd) ?_; rintro v w3 ⟨hk3, u3, rfl, hO3⟩)
      | (go_at_call 23; refine Rets.use (HPr.out W _ _ hC (fun j h => h)) ?_; rintro v w2 ⟨u2, rfl, hO2⟩; have hk2 := hO2.2)
      | (go_at_call 25; refine Rets.use (least_c _ _ _ _) ?_; rintro v w1 ⟨rfl, rfl⟩; first | rw [HL1.out] | rw [HL2.out])
      | (go_at_call 12; refine Rets.use HC.out ?_; rintro vC w0 ⟨hC, rfl⟩; obtain ⟨AC, cC, rfl, _⟩ := hC.slice))
    go_ret
    exact ⟨rfl, ((hk2.trans hk3 (fun _ _ h => h)).trans hk6 (fun _ _ h => h)).trans hk7 (fun _ _ h => h)⟩
  · have HWh := Lib.hid (show ∀ (w : World) (ok : Nat → Prop) (v : Value), Rd w ok v t.length (Disk.bytes8 t) → Calls Try.prog 14 #[v, .int .i64 mo] w (Rets (ThreeIs w ([], 0, 5))) by have := HWh.out; rw [if_neg hbig] at this; exact this)
    go_enter Try.func8, Try.ntmps8
    go_wp2_with (first
      | (go_at_call 17; refine Rets.use (lives12_c _) ?_; rintro v w7 ⟨rfl, hk7⟩)
      | (go_at_call 14; refine Rets.use (HWh.out w2 _ u2 hO2.1.rd) ?_; intro v w3 h3; obtain ⟨hk3, u3, rfl, hO3⟩ := (show Keeps (fun _ => False) w2 w3 ∧ ∃ u, v = .tuple #[u, .int .i64 0, .int .i64 5] ∧ OwnRow w3 (fun k => w2.heap.size ≤ k) 5 1 u 0 (Disk.bytes8 []) from h3); obtain ⟨A3, c3, rfl, _⟩ := hO3.slice)
      | (go_at_call 23; refine Rets.use (HPr.out W _ _ hC (fun j h => h)) ?_; rintro v w2 ⟨u2, rfl, hO2⟩; have hk2 := hO2.2)
      | (go_at_call 25; refine Rets.use (least_c _ _ _ _) ?_; rintro v w1 ⟨rfl, rfl⟩; first | rw [HL1.out] | rw [HL2.out])
      | (go_at_call 12; refine Rets.use HC.out ?_; rintro vC w0 ⟨hC, rfl⟩; obtain ⟨AC, cC, rfl, _⟩ := hC.slice))
    go_ret
    exact ⟨rfl, (hk2.trans hk3 (fun _ _ h => h)).trans hk7 (fun _ _ h => h)⟩
theorem room12_walk (W : World) (a0 : Option Addr) (n0 c0 : Nat) (x0 : (Kd.slice (.int .u8)).Dat) (H0 : Has W (.slice (.int .u8)) [.slice a0 n0 c0] x0) (n : Int) (wn : (Lit.int .i64 n).wf = true) (m : Int) (wm : (Lit.int .i64 m).wf = true) :
    Calls Try.prog 8 #[.slice a0 n0 c0, .int .i64 n, .int .i64 m] W (Rets (Yes W)) := room_in W _ _ n m H0.bytes.1 (byte_of H0)
end Go.Proofs.Ytomnkdjlljobeaa
