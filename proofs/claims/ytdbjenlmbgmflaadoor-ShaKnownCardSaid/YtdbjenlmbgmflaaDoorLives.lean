/- What inquestlaw02.lives answers. Condition: the package's table k reads as its text lays it. -/
import Derived.Test.YtdbjenlmbgmflaaDoorRefS
namespace Go.Proofs.YtdbjenlmbgmflaaDoor
open Go.RowKit

theorem sumF_nil : ga (sumF []) 0 = 227 := by decide +kernel
theorem padF_zero : (padF 0).length = 64 := by rw [padF_len]; rfl

set_option maxHeartbeats 1000000 in
theorem lives_any (w : World) (hk : KV w) : Calls Tryd.prog 16 #[] w fun e w' => e = .returned (.bool true) ∧ Below w.heap.size w w' := by
  have hidx0 := run_index_num (P := Tryd.prog) (kk := .i64) (t := 26) (nums .u8 (sumF [])) 0 _ Tryd.underlying26 Tryd.underlying5 rfl (by kernel_rfl) (by decide) (nums_at .u8 (sumF []) 0 (by rw [sumF_len]; decide))
  rw [← ga_eq, sumF_nil] at hidx0
  have hidx : ∀ w : World, (Instr.index 26 (.agg (nums .u8 (sumF [])).toArray) (.int .i64 0)).run Tryd.prog w = .ok (.int .u8 227) w := hidx0
  clear hidx0
  have HK := Lib.hid hk
  clear hk
  go_enter Tryd.func16, Tryd.ntmps16
  go_wp2_with (first
    | (go_at_call 13; refine (sum_any w [] none 0 (Rd.nil _ _) (Nat.le_refl _) (fun _ => rfl) (by decide) HK.out).mono ?_; rintro e w1 ⟨rfl, hb1⟩)
    | (go_at_call 17; refine (pad_any _ 0 (by omega) (by omega)).mono ?_; rintro e w2 ⟨v2, rfl, hb2, ho2⟩; obtain ⟨A2, c2, rfl, h2, hA2, hR2, hx2⟩ := ho2.from; rw [padF_zero]))
  go_ret
  exact ⟨rfl, hb1.trans (hb2.mono hb1.size)⟩
end Go.Proofs.YtdbjenlmbgmflaaDoor
