/- A rule more for a region whose order is open, for seats without sha. No condition. -/
import Derived.Test.YtabhilifliekmaaBase
namespace Go.Proofs.Ytabhilifliekmaa
open Go.RowKit

section
variable {P : Program} {ops : Array Oper} {C : World → Prop} {Q : Exit → Act → World → Prop} {E F : List Nat} {k : Nat} {rest : List Oper} {a : Act} {w : World} {o : Oper} {v : Value}
/-- A quiet operation, run as a region of its own. -/
theorem wd_w {d : Nat} (hE : E.contains k = false) (hF : F.contains k = false) (hg : o.guard = none) (hq : valueOp o.op = true) (hd : o.dst = some d) (hl0 : Nat.blt d a.tmps.size = true)
    (hv : ∀ w', C w' → ∀ K : Act → World → Prop, (∀ a', a' = a.put (some d) v → K a' w') → wpList P #[] (Exit.then K (fun _ _ _ => False)) [o] a w')
    (h : WD P ops C Q E F (k + 1) rest (a.put (some d) v) w) : WD P ops C Q E F k (o :: rest) a w := by
  refine wd_q hE hF (by simp [Region.wanted, hg]) hq hd hl0 (fun w' hC K hK => ?_) h
  have h1 := hv w' hC K hK
  unfold wpList at h1
  rw [if_pos (by simp [Region.wanted, hg])] at h1
  rcases h1 with h1 | ⟨_, a', w'', hl⟩
  · unfold Oper.wp at h1 ⊢
    generalize (execOp a.eval o).run P w' = r at h1 ⊢
    cases r with
    | ok n w2 =>
      cases n <;> simp only [Oper.upon] at h1 ⊢
      case value u => exact h1
      case skip => exact h1
      case defer d => exact h1
      case enter f args => exact Calls.mono h1 fun e w'' he => by
                            cases e with
                            | returned u => exact he
                            | panicked c => exact he
                            | outgrown => obtain ⟨_, _, hl⟩ := he; exact hl.elim
      case row row args => exact Rows.mono h1 fun _ _ he => he
    | halt z w2 => cases z <;> simp only [Oper.upon] at h1 ⊢; exact h1
  · exact hl.elim
end
end Go.Proofs.Ytabhilifliekmaa
