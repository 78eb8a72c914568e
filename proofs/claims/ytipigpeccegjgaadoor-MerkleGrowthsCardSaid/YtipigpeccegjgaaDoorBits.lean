/- Ranges of bytes. No condition. (For seats without mac; those with mac have these in MacS, MacK.) -/
import Derived.Test.YtipigpeccegjgaaDoorRefS
import Derived.Test.YtipigpeccegjgaaDoorKeep
namespace Go.Proofs.YtipigpeccegjgaaDoor
open Go.RowKit

theorem bits_u8_range (op : BinOp) (a b : Int) : 0 ≤ bits op .u8 a b ∧ bits op .u8 a b < 256 := by
  unfold bits
  have : ∀ n : Int, IntKind.u8.wrap n = n % 256 := fun n => by simp [IntKind.wrap, IntKind.signed, IntKind.bits]
  rw [this]
  omega
theorem bytesF_range (l : List Int) : U8 (bytesF l) := by
  induction l with
  | nil => exact U8.nil
  | cons x l ih => exact (putF_range x 4).append ih
theorem sumF_range (l : List Int) : U8 (sumF l) := bytesF_range _
end Go.Proofs.YtipigpeccegjgaaDoor
