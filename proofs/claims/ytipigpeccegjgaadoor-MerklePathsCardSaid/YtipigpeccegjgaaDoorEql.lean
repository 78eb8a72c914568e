/- Two arrays of numbers compared by ==. No condition but the tables' own. -/
import Derived.Test.YtipigpeccegjgaaDoorBase
import Derived.ChangeKeysEq
namespace Go.Proofs.YtipigpeccegjgaaDoor
open Go.RowKit

section
variable {P : Program} {t e : TypeId} {k : IntKind} {n : Nat}
theorem run_part_num (he : P.underlying e = some (.int k)) (cs : List Value) (i : Nat) (v : Value) (hv : cs[i]? = some v) (w : World) : (part e cs.toArray i).run P w = .ok v w := by
  have hagg : (isAgg e).run P w = .ok false w := by
    unfold isAgg
    rw [Sem.run_bind, run_underlying he w]
    rfl
  simp [part, Sem.run_bind, hagg, hv]
theorem run_eqItems_num (he : P.underlying e = some (.int k)) (d : Nat) (xs ys : List Int) (w : World) : ∀ (is : List Nat), (∀ i ∈ is, i < xs.length ∧ i < ys.length) →
    (Op.eqItems (d + 1) e 1 (nums k xs).toArray (nums k ys).toArray is).run P w = .ok (is.all fun i => ga xs i == ga ys i) w
  | [], _ => by simp [Op.eqItems]
  | i :: is, h => by
    obtain ⟨h1, h2⟩ := h i (by simp)
    have ih := run_eqItems_num he d xs ys w is (fun j hj => h j (by simp [hj]))
    have p1 := run_part_num he (nums k xs) i _ (nums_at k xs i h1) w
    have p2 := run_part_num he (nums k ys) i _ (nums_at k ys i h2) w
    have p3 := run_equalIn_int w d e k k (xs.getD i 0) (ys.getD i 0) he
    simp only [← ga_eq] at p1 p2 p3
    simp only [Op.eqItems, Nat.mul_one, Sem.run_bind, p1, p2, Result.andThen_ok, p3, List.all_cons]
    cases hb : (ga xs i == ga ys i)
    · rfl
    · simpa only [Bool.not_true, Bool.false_eq_true, if_false, Bool.true_and] using ih
theorem all_range_eq (xs ys : List Int) (hx : xs.length = n) (hy : ys.length = n) : ((List.range n).all fun i => ga xs i == ga ys i) = decide (xs = ys) := by
  rw [Bool.eq_iff_iff]
  simp only [List.all_eq_true, List.mem_range, beq_iff_eq, decide_eq_true_eq]
  constructor
  · intro h
    apply List.ext_getElem (by omega)
    intro i h1 h2
    have := h i (by omega)
    simpa [ga, h1, h2] using this
  · rintro rfl i _; rfl
theorem run_equal_nums (ht : P.underlying t = some (.array n e)) (he : P.underlying e = some (.int k)) (hi : (P.info? e).map (·.size) = some 1) (hc : P.cellsOf e = 1) (xs ys : List Int) (hx : xs.length = n) (hy : ys.length = n) (w : World) :
    (Op.equal t (.agg (nums k xs).toArray) (.agg (nums k ys).toArray)).run P w = .ok (decide (xs = ys)) w := by
  cases hq : P.info? e with
  | none => simp [hq] at hi
  | some info =>
    show (Op.equalIn (9999 + 1) t _ _).run P w = _
    rw [run_equalIn_array (w := w) 9999 _ _ ht hq, hc]
    show (Op.eqItems (9998 + 1) e 1 _ _ _).run P w = _
    rw [run_eqItems_num he 9998 xs ys w _ (fun i hi => by rw [List.mem_range] at hi; omega), all_range_eq xs ys hx hy]
theorem run_eql_nums (ht : P.underlying t = some (.array n e)) (he : P.underlying e = some (.int k)) (hi : (P.info? e).map (·.size) = some 1) (hc : P.cellsOf e = 1) (xs ys : List Int) (hx : xs.length = n) (hy : ys.length = n) (w : World) :
    (binOp .eql t (.agg (nums k xs).toArray) (.agg (nums k ys).toArray)).run P w = .ok (.bool (decide (xs = ys))) w := by
  simp [binOp, run_equal_nums ht he hi hc xs ys hx hy w]
theorem run_neq_nums (ht : P.underlying t = some (.array n e)) (he : P.underlying e = some (.int k)) (hi : (P.info? e).map (·.size) = some 1) (hc : P.cellsOf e = 1) (xs ys : List Int) (hx : xs.length = n) (hy : ys.length = n) (w : World) :
    (binOp .neq t (.agg (nums k xs).toArray) (.agg (nums k ys).toArray)).run P w = .ok (.bool (!decide (xs = ys))) w := by
  simp [binOp, run_equal_nums ht he hi hc xs ys hx hy w]
end
end Go.Proofs.YtipigpeccegjgaaDoor
