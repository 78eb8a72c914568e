/- The plain side of sha.Hash: what a hash holds of the bytes that were added. Lists alone. -/
import Derived.Test.YtipigpeccegjgaaDoorBlock
import Derived.Test.YtipigpeccegjgaaDoorPad
namespace Go.Proofs.YtipigpeccegjgaaDoor
open Go.RowKit

/-- The eight numbers behind so many blocks of a text. -/
def chainF (all : List Int) : Nat → List Int
  | 0 => FIRST
  | k + 1 => blockF (chainF all k) ((all.drop (64 * k)).take 64)
theorem chainF_len (all : List Int) (k : Nat) : (chainF all k).length = 8 := by
  induction k with
  | zero => rfl
  | succ k ih => exact blockF_len _ _ ih
theorem chainF_more (all more : List Int) (k : Nat) (h : 64 * k ≤ all.length) : chainF (all ++ more) k = chainF all k := by
  induction k with
  | zero => rfl
  | succ k ih =>
    have hk : 64 * k ≤ all.length := by omega
    simp only [chainF]
    rw [ih hk, List.drop_append_of_le_length hk, List.take_append_of_le_length (by simp; omega)]

/-- What a hash holds behind a text. -/
structure HashOf (all s part : List Int) : Prop where
  chain : s = chainF all (all.length / 64)
  size : part.length = 64
  rest : part.take (all.length % 64) = all.drop (64 * (all.length / 64))
theorem HashOf.len {all s part : List Int} (h : HashOf all s part) : s.length = 8 := by rw [h.chain]; exact chainF_len _ _
theorem HashOf.nil : HashOf [] FIRST (List.replicate 64 0) := ⟨rfl, by simp, by simp⟩

/-- The part behind a copy. -/
def partTo (part : List Int) (at_ : Nat) (new : List Int) : List Int := part.take at_ ++ new ++ part.drop (at_ + new.length)
theorem partTo_len (part : List Int) (at_ : Nat) (new : List Int) (h : at_ + new.length ≤ part.length) : (partTo part at_ new).length = part.length := by
  simp [partTo]; omega

theorem HashOf.short {all s part new : List Int} (h : HashOf all s part) (hl : all.length % 64 + new.length < 64) : HashOf (all ++ new) s (partTo part (all.length % 64) new) := by
  have e1 : (all ++ new).length / 64 = all.length / 64 := by simp; omega
  have e2 : (all ++ new).length % 64 = all.length % 64 + new.length := by simp; omega
  have h64 : 64 * (all.length / 64) ≤ all.length := by omega
  refine ⟨?_, by rw [partTo_len _ _ _ (by rw [h.size]; omega), h.size], ?_⟩
  · rw [e1, chainF_more _ _ _ h64]; exact h.chain
  · rw [e1, e2, List.drop_append_of_le_length h64, ← h.rest]
    unfold partTo
    have hlen : (part.take (all.length % 64)).length = all.length % 64 := by simp [h.size]; omega
    rw [List.append_assoc, ← List.append_assoc, List.take_append_of_le_length (by simp [h.size]; omega)]
    rw [List.take_of_length_le (by simp [h.size]; omega)]
theorem HashOf.full {all s part new : List Int} (h : HashOf all s part) (hl : all.length % 64 + new.length = 64) : HashOf (all ++ new) (blockF s (partTo part (all.length % 64) new)) (partTo part (all.length % 64) new) := by
  have e1 : (all ++ new).length / 64 = all.length / 64 + 1 := by simp; omega
  have e2 : (all ++ new).length % 64 = 0 := by simp; omega
  have h64 : 64 * (all.length / 64) ≤ all.length := by omega
  refine ⟨?_, by rw [partTo_len _ _ _ (by rw [h.size]; omega), h.size], ?_⟩
  · rw [e1]
    simp only [chainF]
    rw [chainF_more _ _ _ h64, ← h.chain, List.drop_append_of_le_length h64, ← h.rest]
    congr 1
    unfold partTo
    rw [List.drop_of_length_le (by rw [h.size]; omega), List.append_nil]
    exact (List.take_of_length_le (by simp [h.size]; omega)).symm
  · have e3 : (all ++ new).length = 64 * (all.length / 64 + 1) := by simp; omega
    rw [e1, e2, List.take_zero, List.drop_of_length_le (by omega)]

/-- The bytes of eight numbers, the highest first. -/
def bytesF : List Int → List Int
  | [] => []
  | x :: l => putF x 4 ++ bytesF l
/-- The sum of a text. -/
def sumF (all : List Int) : List Int :=
  bytesF (chainF (all ++ padF all.length) ((all.length + (noughts all.length + 9)) / 64))
end Go.Proofs.YtipigpeccegjgaaDoor
