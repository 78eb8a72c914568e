/- What the reference's key answers (inquestref02). No condition. -/
import Derived.Test.YtipigpeccegjgaaDoorAdd
namespace Go.Proofs.YtipigpeccegjgaaDoor
open Go.RowKit

theorem KS_len : KS.length = 64 := rfl
set_option maxHeartbeats 1000000 in
set_option maxRecDepth 100000 in
theorem refkey_any (w : World) (i : Nat) (hi : i < 64) :
    Calls Tryd.prog 57 #[.int .i64 i] w fun e w' => e = .returned (.int .u32 (ga KS i)) ∧ Below w.heap.size w w' := by
  go_enter Tryd.func57, Tryd.ntmps57
  go_wp2_with (first
    | (apply st_storeW (off := 0) (vs := nums .u32 KS) (cs := nums .u32 (List.replicate 64 0)) (T := 78); rfl; rfl; exact Blk.new' _ _ _ _ _ rfl rfl; (rw [nums_length, KS_len]; kernel_rfl); (rw [nums_length, nums_length, KS_len]; decide); exact nums_one _ _;
       intro w1 hb1 hw1; rw [laid_all _ _ (by rw [nums_length, nums_length, KS_len]; rfl)] at hb1;
       have c1 := hb1.num i (by rw [KS_len]; exact hi); have hB1 := Wrote.below ((Below.refl w.heap.size w).alloc (Nat.le_refl _) _) hw1 (Nat.le_refl _)))
  go_ret
  exact ⟨rfl, hB1⟩
end Go.Proofs.YtipigpeccegjgaaDoor
