/- How a path that shows another leaf is gone down, pair by pair: in plain Lean. No condition. -/
import Derived.Test.YtiogopneklmodaaDoorClIs
import Derived.Test.YtiogopneklmodaaDoorGk
namespace Go.Proofs.YtiogopneklmodaaDoor
open Go.RowKit

/-- On the way down: of the row cur, place k, whose sum is D, another sum d is shown by the path ps. -/
structure PSt (cur : List (List Int)) (k : Nat) (ps : List (List Int)) (d D : List Int) (z : Int) : Prop where
  lt : k < cur.length
  len : ps.length = (stepsF cur.length k).length
  root : reckonF cur.length k d ps z = rootF cur z
  at' : cur[k]? = some D
  u : Dgs cur
theorem PSt.done {cur : List (List Int)} {k : Nat} {ps : List (List Int)} {d D : List Int} {z : Int} (h : PSt cur k ps d D z) (h1 : ¬ 1 < cur.length) : d = D := by
  have hl := h.lt
  have hc : cur.length = 1 := by omega
  have hk : k = 0 := by omega
  subst hk
  obtain ⟨c, rfl⟩ := List.length_eq_one_iff.1 hc
  have hs := h.len
  have hr := h.root
  have ha := h.at'
  rw [hc] at hs hr
  rw [stepsF_small 1 _ (by omega)] at hs
  obtain rfl := List.eq_nil_of_length_eq_zero hs
  rw [reckonF_one, rootF_one] at hr
  rw [List.getElem?_cons_zero] at ha
  injection ha with ha
  rw [hr, ha]
theorem PSt.pos {cur : List (List Int)} {k : Nat} {ps : List (List Int)} {d D : List Int} {z : Int} (h : PSt cur k ps d D z) (h1 : 1 < cur.length) : ¬ ps.length = 0 := by
  rw [h.len]
  by_cases hi : (k : Int) < kF cur.length
  · rw [stepsF_left _ _ (by omega) hi]; simp
  · rw [stepsF_right _ _ (by omega) hi]; simp
theorem node_def (a b : List Int) (w : Int) : nodeF a b w = cutF (sumF (nodeT a b)) w := rfl
theorem leaf_def (b : List Int) (w : Int) : leafF b w = cutF (sumF (leafT b)) w := rfl
/-- One step down to the left. -/
theorem PSt.left {cur : List (List Int)} {k : Nat} {rest : List (List Int)} {last d D : List Int} {z : Int} (h : PSt cur k (rest ++ [last]) d D z) (h1 : 1 < cur.length) (hd : d.length = 32 ∧ U8 d) (hi : (k : Int) < kF cur.length) :
    rest.length = (stepsF (kF cur.length) k).length ∧
    (¬ (reckonF (kF cur.length) k d rest z = rootF (cur.take (kF cur.length)) z ∧ last = rootF (cur.drop (kF cur.length)) z) →
      IsF (nodeT (reckonF (kF cur.length) k d rest z) last) (nodeT (rootF (cur.take (kF cur.length)) z) (rootF (cur.drop (kF cur.length)) z)) z) ∧
    (reckonF (kF cur.length) k d rest z = rootF (cur.take (kF cur.length)) z → PSt (cur.take (kF cur.length)) k rest d D z) := by
  have hks := kF_spec cur.length (by omega)
  have hs := h.len
  rw [stepsF_left _ _ (by omega) hi, List.length_cons, List.length_append, List.length_singleton] at hs
  have hs2 : rest.length = (stepsF (kF cur.length) k).length := by omega
  have hr := h.root
  rw [reckonF_left _ _ _ _ _ _ (by omega) hi hs2, rootF_big cur z (by omega)] at hr
  have hx := reckonF_ok (kF cur.length) k d rest z hd
  have hl := rootF_ok (cur.take (kF cur.length)) z (h.u.take _)
  refine ⟨hs2, fun hne => clash_node hx.1 hl.1 hr hne (fun a b => node_def a b z), fun he => ?_⟩
  have htl : (cur.take (kF cur.length)).length = kF cur.length := by rw [List.length_take]; omega
  refine ⟨by rw [htl]; omega, by rw [htl]; exact hs2, by rw [htl]; exact he, ?_, h.u.take _⟩
  rw [List.getElem?_take_of_lt (by omega)]; exact h.at'
/-- One step down to the right. -/
theorem PSt.right {cur : List (List Int)} {k : Nat} {rest : List (List Int)} {last d D : List Int} {z : Int} (h : PSt cur k (rest ++ [last]) d D z) (h1 : 1 < cur.length) (hl : last.length = 32) (hi : ¬ (k : Int) < kF cur.length) :
    rest.length = (stepsF (cur.length - kF cur.length) ((k : Int) - kF cur.length)).length ∧
    (¬ (last = rootF (cur.take (kF cur.length)) z ∧ reckonF (cur.length - kF cur.length) ((k : Int) - kF cur.length) d rest z = rootF (cur.drop (kF cur.length)) z) →
      IsF (nodeT last (reckonF (cur.length - kF cur.length) ((k : Int) - kF cur.length) d rest z)) (nodeT (rootF (cur.take (kF cur.length)) z) (rootF (cur.drop (kF cur.length)) z)) z) ∧
    (reckonF (cur.length - kF cur.length) ((k : Int) - kF cur.length) d rest z = rootF (cur.drop (kF cur.length)) z → PSt (cur.drop (kF cur.length)) (k - kF cur.length) rest d D z) := by
  have hks := kF_spec cur.length (by omega)
  have hs := h.len
  rw [stepsF_right _ _ (by omega) hi, List.length_cons, List.length_append, List.length_singleton] at hs
  have hs2 : rest.length = (stepsF (cur.length - kF cur.length) ((k : Int) - kF cur.length)).length := by omega
  have hr := h.root
  rw [reckonF_right _ _ _ _ _ _ (by omega) hi hs2, rootF_big cur z (by omega)] at hr
  have hl' := rootF_ok (cur.take (kF cur.length)) z (h.u.take _)
  have hkk : ((k - kF cur.length : Nat) : Int) = (k : Int) - kF cur.length := by omega
  have hlt := h.lt
  refine ⟨hs2, fun hne => clash_node hl hl'.1 hr hne (fun a b => node_def a b z), fun he => ?_⟩
  have htl : (cur.drop (kF cur.length)).length = cur.length - kF cur.length := List.length_drop
  refine ⟨by rw [htl]; omega, by rw [htl, hkk]; exact hs2, by rw [htl, hkk]; exact he, ?_, h.u.drop _⟩
  rw [List.getElem?_drop]
  have : kF cur.length + (k - kF cur.length) = k := by omega
  rw [this]; exact h.at'
theorem PSt.start {cur : List (List Int)} {i : Nat} {ps : List (List Int)} {d D : List Int} {z : Int} (hu : Dgs cur) (hD : cur[i]? = some D) (h : checkPF (rootF cur z) cur.length i d ps z = true) : PSt cur i ps d D z := by
  unfold checkPF at h
  have h := of_decide_eq_true h
  rw [Int.toNat_natCast] at h
  obtain ⟨h1, h2, h3, h4⟩ := h
  exact ⟨by omega, h3, h4, hD, hu⟩
theorem leaf_clash {b c : List Int} {z : Int} (hn : ¬ c = b) (h : leafF b z = leafF c z) : IsF (leafT b) (leafT c) z :=
  ⟨fun e => hn (by unfold leafT at e; injection e with _ e; exact e.symm), by rw [← leaf_def, ← leaf_def]; exact h⟩

/-- A clash, or none, as it is answered. -/
def ClAns (w' : World) (v : Value) (must : Bool) (z : Int) : Prop :=
  ∃ (a b : List Int) (A B : Option Addr) (c d : Nat), v = .tuple #[.agg (clC a b A B c d).toArray, .bool must] ∧ Byt w' A c a ∧ Byt w' B d b ∧ (must = false → a = [] ∧ b = []) ∧ (must = true → IsF a b z) ∧ a.length ≤ 1100 ∧ b.length ≤ 1100
/-- Whether a path shows another leaf. -/
def pathMust (l : List (List Int)) (i : Int) (b : List Int) (ps : List (List Int)) (z : Int) : Bool :=
  decide (0 ≤ i ∧ i < l.length ∧ ¬ l.getD i.toNat [] = b) && checkPF (rootF (leavesF l z) z) l.length i (leafF b z) ps z
theorem pathMust_out (l : List (List Int)) (i : Int) (b : List Int) (ps : List (List Int)) (z : Int) (h : ¬ (0 ≤ i ∧ i < l.length)) : pathMust l i b ps z = false := by
  unfold pathMust; rw [decide_eq_false (fun e => h ⟨e.1, e.2.1⟩), Bool.false_and]
theorem pathMust_same (l : List (List Int)) (i : Int) (b : List Int) (ps : List (List Int)) (z : Int) (h : l.getD i.toNat [] = b) : pathMust l i b ps z = false := by
  unfold pathMust; rw [decide_eq_false (fun e => e.2.2 h), Bool.false_and]
theorem pathMust_in (l : List (List Int)) (i : Int) (b : List Int) (ps : List (List Int)) (z : Int) (h0 : 0 ≤ i) (h1 : i < l.length) (h : ¬ l.getD i.toNat [] = b) : pathMust l i b ps z = checkPF (rootF (leavesF l z) z) l.length i (leafF b z) ps z := by
  unfold pathMust; rw [decide_eq_true ⟨h0, h1, h⟩, Bool.true_and]

end Go.Proofs.YtiogopneklmodaaDoor
