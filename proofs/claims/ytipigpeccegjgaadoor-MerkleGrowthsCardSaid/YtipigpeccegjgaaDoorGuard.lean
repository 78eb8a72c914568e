/- Two rules more for a region whose order is open: a guarded operation that may turn the world; a pick. No condition. -/
import Derived.Test.YtipigpeccegjgaaDoorHash
namespace Go.Proofs.YtipigpeccegjgaaDoor
open Go.RowKit

section
variable {P : Program} {ops : Array Oper} {C : World → Prop} {Q : Exit → Act → World → Prop} {E F : List Nat} {k : Nat} {rest : List Oper} {a : Act} {w : World} {o : Oper} {v : Value}
/-- A guarded operation that may turn the world; its guard is met. -/
theorem wd_lg (hE : E.contains k = true) (hg : Region.wanted o (yielded ops a.tmps) = true) (hQo : ∀ a w, ¬ Q .outgrown a w)
    (h : wpList P #[] (Exit.then (fun a' w' => After C F (List.range' (k + 1) rest.length) (sinks ops k) w' ∧ WD P ops C Q E F (k + 1) rest a' w') Q) [{ o with guard := none }] a w) : WD P ops C Q E F k (o :: rest) a w := by
  refine wd_loud hE hg ?_
  unfold wpList at h
  rw [if_pos (by simp [Region.wanted])] at h
  rcases h with h | ⟨_, a', w', hl⟩
  · obtain ⟨dst, op, type, pos, after, guard⟩ := o
    unfold Oper.wp at h ⊢
    dsimp only at h
    have he : execOp a.eval ⟨dst, op, type, pos, after, guard⟩ = execOp a.eval ⟨dst, op, type, pos, after, none⟩ := rfl
    rw [he]
    generalize (execOp a.eval ⟨dst, op, type, pos, after, none⟩).run P w = r at h ⊢
    cases r with
    | ok n w' =>
      cases n <;> simp only [Oper.upon] at h ⊢
      case value u => exact h
      case skip => exact h
      case defer d => exact h
      case enter f args => exact Calls.mono h fun e w'' he => by cases e <;> exact he
      case row row args => exact Rows.mono h fun _ _ he => he
    | halt z w' => cases z <;> simp only [Oper.upon] at h ⊢ <;> exact h
  · exact absurd hl (hQo a' w')
/-- A pick, in every world. -/
theorem wd_pick {c x y : Operand} {b : Bool} (ho : o.op = .pick c x y) (hE : E.contains k = false) (hg : o.guard = none) (hc : a.eval c = .bool b) (hv : (if b then a.eval x else a.eval y) = v)
    (h : WD P ops C Q E F (k + 1) rest (a.put o.dst v) w) : WD P ops C Q E F k (o :: rest) a w := by
  subst hv
  simp only [WD]
  rw [if_neg (by rw [hE]; exact Bool.false_ne_true)]
  refine ⟨_, .inl ⟨by simp [Region.wanted, hg], fun w _ => ?_⟩, h⟩
  unfold execOp
  rw [ho]
  simp [hc, asBool]
end
end Go.Proofs.YtipigpeccegjgaaDoor
