/- How a clash is taken out of a path or a growth that shows something else: in plain Lean. No condition. -/
import Derived.Test.YtiogopneklmodaaDoorGh
namespace Go.Proofs.YtiogopneklmodaaDoor
open Go.RowKit

/-- Two unlike texts of one sum. -/
def IsF (A B : List Int) (w : Int) : Prop := A ≠ B ∧ cutF (sumF A) w = cutF (sumF B) w
instance (A B : List Int) (w : Int) : Decidable (IsF A B w) := by unfold IsF; infer_instance
def reckonF (n : Nat) (i : Int) (d : List Int) (p : List (List Int)) (w : Int) : List Int := upF d (stepsF n i).reverse p w
theorem reckonF_one (i : Int) (d : List Int) (w : Int) : reckonF 1 i d [] w = d := by unfold reckonF; rw [stepsF_small 1 i (by omega)]; rfl
theorem reckonF_left (n : Nat) (i : Int) (d last : List Int) (rest : List (List Int)) (w : Int) (h : 2 ≤ n) (hi : i < kF n) (hl : rest.length = (stepsF (kF n) i).length) : reckonF n i d (rest ++ [last]) w = nodeF (reckonF (kF n) i d rest w) last w := by
  unfold reckonF
  rw [stepsF_left n i h hi, List.reverse_cons, upF_one _ _ _ _ _ _ (by simp [hl])]; rfl
theorem reckonF_right (n : Nat) (i : Int) (d last : List Int) (rest : List (List Int)) (w : Int) (h : 2 ≤ n) (hi : ¬ i < kF n) (hl : rest.length = (stepsF (n - kF n) (i - kF n)).length) : reckonF n i d (rest ++ [last]) w = nodeF last (reckonF (n - kF n) (i - kF n) d rest w) w := by
  unfold reckonF
  rw [stepsF_right n i h hi, List.reverse_cons, upF_one _ _ _ _ _ _ (by simp [hl])]; rfl
theorem reckonF_ok (n : Nat) (i : Int) (d : List Int) (p : List (List Int)) (w : Int) (hd : d.length = 32 ∧ U8 d) : (reckonF n i d p w).length = 32 ∧ U8 (reckonF n i d p w) := upF_ok _ _ _ _ hd
theorem last_of {α : Type} (p : List α) (h : 0 < p.length) : ∃ rest last, p = rest ++ [last] := ⟨p.dropLast, p.getLast (List.length_pos_iff.1 h), (List.dropLast_concat_getLast _).symm⟩
def nodeT (x y : List Int) : List Int := 1 :: (x ++ y)
def leafT (b : List Int) : List Int := 0 :: b
theorem nodeT_inj {x y x' y' : List Int} (h : x.length = 32) (h' : x'.length = 32) (e : nodeT x y = nodeT x' y') : x = x' ∧ y = y' := by
  unfold nodeT at e
  injection e with _ e
  exact List.append_inj e (by omega)
/-- One step down: two unlike pairs of one node clash. -/
theorem clash_node {x y x' y' : List Int} {w : Int} (h : x.length = 32) (h' : x'.length = 32) (hn : nodeF x y w = nodeF x' y' w) (hne : ¬ (x = x' ∧ y = y')) (hdef : ∀ a b : List Int, nodeF a b w = cutF (sumF (nodeT a b)) w) : IsF (nodeT x y) (nodeT x' y') w :=
  ⟨fun e => hne (nodeT_inj h h' e), by rw [← hdef, ← hdef]; exact hn⟩

end Go.Proofs.YtiogopneklmodaaDoor
