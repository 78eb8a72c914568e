/- A rule more for a region whose order is open: a quiet operation with a guard that is met, run as the walk runs it. No condition. -/
import Derived.Test.YtipigpeccegjgaaDoorGuard
namespace Go.Proofs.YtipigpeccegjgaaDoor
open Go.RowKit

section
variable {P : Program} {ops : Array Oper} {C : World → Prop} {Q : Exit → Act → World → Prop} {E F : List Nat} {k : Nat} {rest : List Oper} {a : Act} {w : World} {o : Oper} {v : Value}
theorem wd_wg {d : Nat} (hE : E.contains k = false) (hF : F.contains k = false) (hg : Region.wanted o (yielded ops a.tmps) = true) (hq : valueOp o.op = true) (hd : o.dst = some d) (hl0 : Nat.blt d a.tmps.size = true)
    (hv : ∀ w', C w' → ∀ K : Act → World → Prop, (∀ a', a' = a.put (some d) v → K a' w') → wpList P #[] (Exit.then K (fun _ _ _ => False)) [{ o with guard := none }] a w')
    (h : WD P ops C Q E F (k + 1) rest (a.put (some d) v) w) : WD P ops C Q E F k (o :: rest) a w := by
  refine wd_q hE hF hg hq hd hl0 (fun w' hC K hK => ?_) h
  have h1 := hv w' hC K hK
  unfold wpList at h1
  rw [if_pos (by simp [Region.wanted])] at h1
  rcases h1 with h1 | ⟨_, a', w'', hl⟩
  · obtain ⟨dst, op, type, pos, after, guard⟩ := o
    unfold Oper.wp at h1 ⊢
    dsimp only at h1
    have he : execOp a.eval ⟨dst, op, type, pos, after, guard⟩ = execOp a.eval ⟨dst, op, type, pos, after, none⟩ := rfl
    rw [he]
    generalize (execOp a.eval ⟨dst, op, type, pos, after, none⟩).run P w' = r at h1 ⊢
    cases r with
    | ok n w2 =>
      cases n <;> simp only [Oper.upon] at h1 ⊢
      case value u => exact h1
      case skip => exact h1
      case defer d => exact h1
      case enter f args => exact Calls.mono h1 fun e w'' he => by
                            cases e with
                            | returned u => exact he
                            | panicked c => exact he
                            | outgrown => obtain ⟨_, _, hl⟩ := he; exact hl.elim
      case row row args => exact Rows.mono h1 fun _ _ he => he
    | halt z w2 => cases z <;> simp only [Oper.upon] at h1 ⊢; exact h1
  · exact hl.elim
end
end Go.Proofs.YtipigpeccegjgaaDoor
