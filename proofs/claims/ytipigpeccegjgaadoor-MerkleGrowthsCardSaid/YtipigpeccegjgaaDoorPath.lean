/- The path of a place of a list, in plain Lean; buildSlice of a digest. No condition. -/
import Derived.Test.YtipigpeccegjgaaDoorLawRoots
import Derived.Test.YtipigpeccegjgaaDoorGuardW
import Derived.Great.BuildSlice
namespace Go.Proofs.YtipigpeccegjgaaDoor
open Go.RowKit

def pathF (ds : List (List Int)) (i : Int) (w : Int) : List (List Int) :=
  if _h : ds.length < 2 then []
  else if i < kF ds.length then pathF (ds.take (kF ds.length)) i w ++ [rootF (ds.drop (kF ds.length)) w]
  else pathF (ds.drop (kF ds.length)) (i - kF ds.length) w ++ [rootF (ds.take (kF ds.length)) w]
termination_by ds.length
decreasing_by
  all_goals
    have := kF_spec ds.length (by omega)
    simp only [List.length_take, List.length_drop]
    omega
theorem pathF_small (ds : List (List Int)) (i w : Int) (h : ds.length < 2) : pathF ds i w = [] := by rw [pathF, dif_pos h]
theorem pathF_left (ds : List (List Int)) (i w : Int) (h : 2 ≤ ds.length) (hi : i < kF ds.length) : pathF ds i w = pathF (ds.take (kF ds.length)) i w ++ [rootF (ds.drop (kF ds.length)) w] := by
  rw [pathF, dif_neg (by omega), if_pos hi]
theorem pathF_right (ds : List (List Int)) (i w : Int) (h : 2 ≤ ds.length) (hi : ¬ i < kF ds.length) : pathF ds i w = pathF (ds.drop (kF ds.length)) (i - kF ds.length) w ++ [rootF (ds.take (kF ds.length)) w] := by
  rw [pathF, dif_neg (by omega), if_neg hi]

theorem fold_zip (l : List Value) : ∀ (k : Nat) (cs : Array Value) (pre mid : List Value), cs.toList = pre ++ mid → pre.length = k → mid.length = l.length →
    ((l.zipIdx k).foldl (fun (cs : Array Value) (x : Value × Nat) => cs.setIfInBounds x.2 x.1) cs).toList = pre ++ l := by
  induction l with
  | nil => intro k cs pre mid h1 h2 h3; simp [List.eq_nil_of_length_eq_zero h3] at h1 ⊢; exact h1
  | cons v l ih =>
    intro k cs pre mid h1 h2 h3
    cases mid with
    | nil => cases h3
    | cons m mid =>
      rw [List.zipIdx_cons, List.foldl_cons]
      have := ih (k + 1) (cs.setIfInBounds k v) (pre ++ [v]) mid (by rw [Array.toList_setIfInBounds, h1, List.set_append_right _ _ (by omega), h2, Nat.sub_self, List.set_cons_zero]; simp) (by simp [h2]) (by simpa using h3)
      rw [this]; simp
theorem fill_one (cs : List Value) (z : Array Value) (hz : z.size = 32) (hc : cs.length = 32) : Instr.fill (fun i => some (i * 32, 32)) z [(0, .agg cs.toArray)] = some cs.toArray := by
  have h := fold_zip cs 0 z [] z.toList rfl rfl (by simp [hz, hc])
  have h2 : (cs.toArray.zipIdx.foldl (fun (a : Array Value) (x : Value × Nat) => a.setIfInBounds (0 + x.2) x.1) z) = cs.toArray := by
    apply Array.ext'
    simp only [Nat.zero_add]
    rw [← Array.foldl_toList]
    simpa using h
  simp [Instr.fill, Value.cells, hc, hz]
  simpa using h2

/-- []Digest{d}. -/
theorem st_buildD {ops : Array Oper} {rest : List Oper} {a : Act} {w : World} {Q : Exit → Act → World → Prop} {d' : Option Tmp} {tt : TypeId} {x : Operand} {pos : String} {after : Array Edge} {d : List Int}
    (hx : a.eval x = .agg (nums .u8 d).toArray) (hd : d.length = 32)
    (h : wpList Tryd.prog ops Q rest (a.put d' (.slice (some ⟨w.heap.size, 0, none⟩) 1 1)) (w.alloc (.cells (nums .u8 d).toArray 25))) :
    wpList Tryd.prog ops Q (⟨d', .buildSlice 22 1 #[(0, x)], tt, pos, after, none⟩ :: rest) a w := by
  obtain ⟨i0, hi, hz0, hz1, hz2⟩ := info_parts dinfo
  have hrun : (Instr.buildSlice 22 1 #[(0, .agg (nums .u8 d).toArray)]).run Tryd.prog w = .ok (.slice (some ⟨w.heap.size, 0, none⟩) 1 1) (w.alloc (.cells (nums .u8 d).toArray 25)) := by
    have hf := fill_one (nums .u8 d) ((Array.range 32).map fun j => (nums .u8 (List.replicate 32 0)).toArray[j % 32]!) (by simp) (by rw [nums_length, hd])
    have hzc : (Value.agg (nums .u8 (List.replicate 32 0)).toArray).cells = (nums .u8 (List.replicate 32 0)).toArray := rfl
    have hzs : (nums .u8 (List.replicate 32 0)).toArray.size = 32 := rfl
    have e1 : ¬ (1 * i0.size > 2 ^ 24) := by rw [hz1]; decide
    have e2 : ¬ (1 * i0.size = 0) := by rw [hz1]; decide
    have e3 : Instr.fill (fun i => some (i * i0.size, i0.size)) ((Array.range (1 * i0.size)).map ((Value.agg (nums .u8 (List.replicate 32 0)).toArray).cells[· % (Value.agg (nums .u8 (List.replicate 32 0)).toArray).cells.size]!)) (#[((0 : Nat), Value.agg (nums .u8 d).toArray)] : Array (Nat × Value)).toList = some (nums .u8 d).toArray := by
      rw [hz1]; exact hf
    exact run_buildSlice w _ _ 1 _ _ i0 _ Tryd.underlying22 hi hz0 e1 e2 e3
  refine wpList_plain rfl fun K hK => ?_
  unfold Oper.wp execOp
  simp only [Sem.run_bind]
  rw [show ((#[(0, x)] : Array (Nat × Operand)).map fun y => match y with | (i, x) => (i, a.eval x)) = #[(0, .agg (nums .u8 d).toArray)] by simp [hx], hrun]
  exact hK _ _ h
end Go.Proofs.YtipigpeccegjgaaDoor
