/-
  ChunkSteps: the plain law.
-/
import Derived.Test.YtomnkdjlljobeaaChunkT
import Derived.Test.YtomnkdjlljobeaaLReads
namespace Go.Proofs.Ytomnkdjlljobeaa
open Go.RowKit Go.Canon Go.Mem Go.Args
set_option linter.unusedVariables false
set_option linter.unusedSimpArgs false
/-- The two readers stand alike. -/
def Alike (m : Int) (r : Chunk.Rd) (B : List Int) (en : Bool) : Prop :=
  (en = false ∧ Chunk.alive ⟨m, 0, 0, []⟩ B ∧ r = Chunk.feed ⟨m, 0, 0, []⟩ B ∧ r.at_ ≠ 7 ∧ r.at_ ≠ 8) ∨ (en = true ∧ (r.at_ = 7 ∨ r.at_ = 8) ∧ Chunk.okrun ⟨m, 0, 0, []⟩ B ∧ r.b = (Chunk.feed ⟨m, 0, 0, []⟩ B).b)
theorem Alike.start (m : Int) : Alike m ⟨m, 0, 0, []⟩ [] false := .inl ⟨rfl, trivial, rfl, by simp, by simp⟩
theorem Alike.body {m : Int} {r : Chunk.Rd} {B : List Int} {en : Bool} (h : Alike m r B en) : Chunk.bodyOf m [] B = r.b := by
  rcases h with ⟨_, h1, h2, _⟩ | ⟨_, _, h1, h2⟩
  · rw [Chunk.body_law B.length B [] (Nat.le_refl _) (Chunk.alive_ok _ _ h1), h2]
  · rw [Chunk.body_law B.length B [] (Nat.le_refl _) h1, h2]
theorem Alike.step {m : Int} {r : Chunk.Rd} {B : List Int} {en : Bool} (h : Alike m r B en) (m0 : 0 ≤ m) (m1 : m ≤ 2048) (x : Int) : (Chunk.put r x).1 = (rput m B en x).1 ∧ Alike m (Chunk.put r x).2 (rput m B en x).2.1 (rput m B en x).2.2 := by
  rcases h with ⟨rfl, h1, h2, h7, h8⟩ | ⟨rfl, hat, h1, h2⟩
  · have hw : (Chunk.whole (B ++ [x]) m).2.2 = if (Chunk.put r x).1.2 ≠ 0 then (Chunk.put r x).1.2 else if (Chunk.put r x).1.1 then 0 else 3 := by
      unfold Chunk.whole
      rw [if_neg (by omega), Chunk.go_alive B _ x 0 h1, ← h2, Chunk.go]
      split
      · rfl
      · split <;> rfl
    have hp : ∀ (t : List Int × Int × Int), t = Chunk.whole (B ++ [x]) m → rput m B false x = if t.2.2 = 4 ∨ t.2.2 = 5 then ((false, t.2.2), (B, true)) else ((decide (t.2.2 = 0), 0), (B ++ [x], decide (t.2.2 = 0))) := by
      intro t ht; subst ht; simp [rput]
    have hp := hp _ rfl
    rw [hw] at hp
    rcases Chunk.put_err r x ⟨h7, h8⟩ with h0 | ⟨he, hb, h88⟩
    · obtain ⟨h3, h4⟩ := Chunk.put_done r x ⟨h7, h8⟩ h0
      have hok := Chunk.okrun_snoc B ⟨m, 0, 0, []⟩ x (Chunk.alive_ok _ _ h1) (by rw [← h2]; exact h0)
      have hfd := Chunk.feed_snoc ⟨m, 0, 0, []⟩ B x
      rw [← h2] at hfd
      by_cases h5 : (Chunk.put r x).2.at_ = 7
      · rw [h3] at hp
        simp [h5] at hp
        rw [h3, hp]
        simp only [h5]
        exact ⟨by simp, .inr ⟨rfl, .inl h5, hok, by rw [hfd]⟩⟩
      · rw [h3] at hp
        simp [h5] at hp
        rw [h3, hp]
        simp only [h5]
        refine ⟨by simp, .inl ⟨rfl, Chunk.alive_snoc B _ x h1 (by rw [← h2, h3]; simp [h5]), hfd.symm, h5, h4⟩⟩
    · rcases he with he | he
      · rw [he] at hp
        simp at hp
        rw [he, hp]
        exact ⟨rfl, .inr ⟨rfl, .inr h88, Chunk.alive_ok _ _ h1, by rw [hb, h2]⟩⟩
      · rw [he] at hp
        simp at hp
        rw [he, hp]
        exact ⟨rfl, .inr ⟨rfl, .inr h88, Chunk.alive_ok _ _ h1, by rw [hb, h2]⟩⟩
  · have hp : Chunk.put r x = ((false, 20), r) := by unfold Chunk.put; rw [if_pos hat]
    have hq : rput m B true x = ((false, 20), (B, true)) := by simp [rput]
    rw [hp, hq]
    exact ⟨rfl, .inr ⟨rfl, hat, h1, h2⟩⟩
theorem rput_len (m : Int) (B : List Int) (en : Bool) (x : Int) : (rput m B en x).2.1.length ≤ B.length + 1 := by
  unfold rput
  split
  · simp
  · split <;> simp
theorem rput_byte {m : Int} {B : List Int} {en : Bool} {x : Int} (h : Byte B) (hx : 0 ≤ x ∧ x ≤ 255) : Byte (rput m B en x).2.1 := by
  have h2 : Byte (B ++ [x]) := fun y hy => (List.mem_append.1 hy).elim (h y) (fun h => by rw [List.mem_singleton] at h; subst h; exact hx)
  unfold rput
  split
  · exact h
  · split
    · exact h
    · exact h2
end Go.Proofs.Ytomnkdjlljobeaa
